/- Contracts of layer 3 (nand): Bytes; slices.Concat, slices.Grow. -/
import Derived.Test.YtljaocdmeoheaaaSNand7
set_option linter.unusedVariables false
set_option linter.unusedSimpArgs false
set_option maxRecDepth 4000
namespace Go.Den

/-- slices of bytes -/
def SlicesAt (w : World) (a : Option Addr) (bs : List (List UInt8)) : Prop :=
  ∃ vs, RowAt w a vs ∧ vs.length = bs.length ∧ ∀ i, i < bs.length → ∃ ai ci, vs[i]? = some (.slice ai (bs.getD i []).length ci) ∧ BytesAt w ai (bs.getD i [])
theorem SlicesAt.ext {w w' : World} {a : Option Addr} {bs : List (List UInt8)} (h : SlicesAt w a bs) (k : Ext w w') : SlicesAt w' a bs := by
  obtain ⟨vs, hr, hl, hv⟩ := h
  refine ⟨vs, RowAt.ext hr k, hl, fun i hi => ?_⟩
  obtain ⟨ai, ci, h1, h2⟩ := hv i hi
  exact ⟨ai, ci, h1, RowAt.ext h2 k⟩
/-- one of them is read -/
theorem idx_slice {w : World} {a : Option Addr} {bs : List (List UInt8)} {i : Nat} {K : Option Addr → Nat → Nat → Prop} (h : SlicesAt w a bs) (hi : i < bs.length) (hk : ∀ ai ci, BytesAt w ai (bs.getD i []) → K ai (bs.getD i []).length ci) :
    idxP a bs.length (i : Int) 1 fun q => ∃ (a1 : Option Addr) (l1 c1 : Nat), World.cell? w q = some (Value.slice a1 l1 c1) ∧ K a1 l1 c1 := by
  obtain ⟨vs, hr, hl, hv⟩ := h
  obtain ⟨ai, ci, h1, h2⟩ := hv i hi
  refine ⟨by omega, by omega, ?_⟩
  obtain ⟨b, o, rfl, hc⟩ := RowAt.cell hr h1
  simp only [nilC_some', add_lit, Int.toNat_natCast, Nat.mul_one]
  exact ⟨_, _, _, hc, hk ai ci h2⟩

theorem flatten_take_succ (bs : List (List UInt8)) (i : Nat) (hi : i < bs.length) : (bs.take (i + 1)).flatten = (bs.take i).flatten ++ bs.getD i [] := by
  rw [List.take_succ_eq_append_getElem hi, List.flatten_append]
  simp [List.getD, hi]
theorem flatten_take_le (bs : List (List UInt8)) (i : Nat) : (bs.take i).flatten.length ≤ bs.flatten.length := by
  have h : bs.flatten = (bs.take i).flatten ++ (bs.drop i).flatten := by rw [← List.flatten_append, List.take_append_drop]
  rw [h]; simp

theorem slices_Grow_spec (n : Nat) (hn : n ≤ 10000000000000) (w : World) :
    CallsR prog K.slices_Grow_byte #[.slice none 0 0, .int .i64 n] w fun v w' => Ext w w' ∧ ∃ a c, v = .slice a 0 c ∧ OwnAt w' a 0 c T.uint8 1 [] ∧ Fresh w a := by
  apply slices_Grow_byte.sh
  unfold slices_Grow_byte.body
  refine br_dec (fun h => by omega) fun _ => ?_
  have e : IntKind.i64.wrap ((n : Int) - IntKind.i64.wrap (((0 : Nat) : Int) - ((0 : Nat) : Int))) = (n : Int) := by
    rw [w64 (x := ((0 : Nat) : Int) - ((0 : Nat) : Int)) (by omega) (by omega), w64 (by omega) (by omega)]; omega
  rw [e]
  refine br_dec (fun hpos => ?_) fun hz => ⟨Upd.refl _ _, none, 0, rfl, OwnAt.nil _ _ _, Fresh.none _⟩
  refine ⟨by simp, by simp, by simp, by simp, by simp, by simp, by simp, ?_⟩
  simp only [Option.getD_some, Option.getD_none, Option.map_none, ite_self]
  refine ⟨by omega, by omega, by omega, by simp; rfl, rfl, fun h => ?_, fun _ => ⟨by simp; omega, ?_, [], ?_, fun cap b w' hc hn => ?_⟩⟩
  · simp at h; omega
  · have := nextcap_le (n := 0 + (n : Int).toNat) (c := 0) (by simp; omega)
    simp at this ⊢
    omega
  · exact read_row (RowAt.nil _ _) (by simp)
  · have e1 : Ext w w' := (drew_upd w).trans hn.upd
    have hb : b = w.heap.size := hn.num
    have hcap : n ≤ cap := by simpa using hc
    refine ⟨by simp, by simp, by simp, by simp, by simp, by simp, by simp, ?_⟩
    have e2 : (if (Option.getD none (cap : Int)).toNat = (Option.getD none (0 : Int)).toNat then some (⟨b, 0, none⟩ : Addr) else Option.map (fun x => Addr.add x ((Option.getD none (0 : Int)).toNat * 1)) (some ⟨b, 0, none⟩)) = some ⟨b, 0, none⟩ := by simp
    simp only [Option.getD_some, Option.getD_none] at e2 ⊢
    refine ⟨e1, some ⟨b, 0, none⟩, cap, ?_, ?_, Fresh.some (by omega)⟩
    · rw [e2]; simp
    · refine ⟨by simp, by omega, .inr ⟨b, _, rfl, hn.get, ?_, by simp⟩⟩
      simp [zerosL_length]
      omega

theorem slices_Concat_spec {w : World} {a : Option Addr} {bs : List (List UInt8)} {cp : Nat} (h : SlicesAt w a bs) (hn : bs.length ≤ 1000000000) (hf : bs.flatten.length ≤ 10000000000000) :
    CallsR prog K.slices_Concat_byte #[.slice a bs.length cp] w fun v w' => Ext w w' ∧ ∃ a' c', v = .slice a' bs.flatten.length c' ∧ OwnAt w' a' bs.flatten.length c' T.uint8 1 (bs.flatten.map bv) ∧ Fresh w a' := by
  apply slices_Concat_byte.sh
  refine ⟨fun x y u => ∃ i : Nat, y = i ∧ i ≤ bs.length ∧ x = ((bs.take i).flatten.length : Nat) ∧ u = w, fun _ y _ => (bs.length - y).toNat, ⟨0, rfl, by omega, by simp, rfl⟩, ?_⟩
  rintro x y u ⟨i, rfl, hi, rfl, rfl⟩
  refine br_dec (fun hlt => ?_) fun hge => ?_
  · have hi' : i < bs.length := by omega
    refine idx_slice h hi' fun ai ci hb => ?_
    have hle := flatten_take_le bs (i + 1)
    have hsucc := flatten_take_succ bs i hi'
    have e : IntKind.i64.wrap (((bs.take i).flatten.length : Int) + ((bs.getD i []).length : Int)) = ((bs.take (i + 1)).flatten.length : Nat) := by
      rw [hsucc, List.length_append, Int.natCast_add]
      have : (bs.take (i + 1)).flatten.length = (bs.take i).flatten.length + (bs.getD i []).length := by rw [hsucc, List.length_append]
      exact w64 (by omega) (by omega)
    have e1 : IntKind.i64.wrap ((i : Int) + 1) = ((i + 1 : Nat) : Int) := w64 (by omega) (by omega)
    simp only []
    rw [e, e1]
    exact br_dec (fun h => by omega) fun _ => ⟨⟨i + 1, rfl, hi', rfl, by trivial⟩, by omega⟩
  · have hi' : i = bs.length := by omega
    subst hi'
    rw [List.take_length]
    refine (slices_Grow_spec _ hf u).mono ?_
    rintro _ w₂ ⟨he, a2, c2, rfl, ho, hfr⟩
    refine ⟨_, _, _, rfl, fun a3 l3 c3 x v => ∃ i : Nat, x = i ∧ i ≤ bs.length ∧ l3 = (bs.take i).flatten.length ∧ OwnAt v a3 l3 c3 T.uint8 1 ((bs.take i).flatten.map bv) ∧ Ext u v ∧ Fresh u a3, fun _ _ _ x _ => (bs.length - x).toNat, ⟨0, rfl, by omega, by simp, by simpa using ho, he, hfr⟩, ?_⟩
    rintro a3 l3 c3 x v ⟨i, rfl, hi, rfl, ho3, he3, hf3⟩
    refine br_dec (fun hlt => ?_) fun hge => ?_
    · have hi' : i < bs.length := by omega
      refine idx_slice (h.ext he3) hi' fun ai ci hb => ?_
      have hle := flatten_take_le bs (i + 1)
      have hsucc := flatten_take_succ bs i hi'
      have e1 : IntKind.i64.wrap ((i : Int) + 1) = ((i + 1 : Nat) : Int) := w64 (by omega) (by omega)
      simp only []
      rw [e1]
      refine append_bytes ho3 hb (by rw [← List.length_append, ← hsucc]; omega) fun a' c' w' hu ho' hf' => ?_
      rw [← hsucc] at ho' ⊢
      refine ⟨⟨i + 1, rfl, hi', rfl, ho', Upd.beyond he3 hu (fun x hx => hf3 _ hx), ?_⟩, by omega⟩
      rcases hf' with rfl | ⟨b, rfl, hb⟩
      · exact hf3
      · exact Fresh.some (by have := he3.size; omega)
    · have hi' : i = bs.length := by omega
      subst hi'
      rw [List.take_length] at ho3 ⊢
      exact ⟨he3, a3, c3, rfl, ho3, hf3⟩

theorem Chip.Ok.bytes_le {c : Chip} (h : c.Ok) : c.blocks.flatten.length ≤ 1000000 := by
  have h1 : ∀ (l : List (List UInt8)), (∀ b ∈ l, b.length = c.np * c.sz) → l.flatten.length ≤ l.length * 8192 := by
    intro l
    induction l with
    | nil => intro _; simp
    | cons b l ih =>
      intro hb
      have := ih fun x hx => hb x (by simp [hx])
      have h2 := hb b (by simp)
      have h3 := h.size_le
      simp at this ⊢
      omega
  have := h1 _ h.bl2
  have := h.bl
  have := h.nb2
  omega

theorem nand_Bytes_spec {w : World} {p : Nat} {c : Chip} {L : Loc} {G : Nat → Prop} (h : ChipRep w p c L G) :
    CallsR prog K.nand_Chip_Bytes #[.pointer (some ⟨p, 0, none⟩)] w fun v w' => Ext w w' ∧ ∃ a' c', v = .slice a' c.blocks.flatten.length c' ∧ OwnAt w' a' c.blocks.flatten.length c' T.uint8 1 (c.blocks.flatten.map bv) ∧ Fresh w a' := by
  apply nand_Chip_Bytes.sh
  unfold nand_Chip_Bytes.body
  refine (nand_off_spec h).mono ?_
  rintro _ _ ⟨rfl, rfl⟩
  rename_i w
  refine ⟨_, rfl, ?_⟩
  simp only [br_false, nilC_some', add_lit]
  refine ⟨_, _, _, cell_of h.head rfl, ?_⟩
  have hs : SlicesAt w (some ⟨L.pb, 0, none⟩) c.blocks := by
    obtain ⟨vs, hvo, hv⟩ := h.rows
    refine ⟨vs, hvo.row, by have := hvo.1; rw [h.ok.bl]; simpa using this, fun i hi => ?_⟩
    rw [h.ok.bl] at hi
    obtain ⟨l, cap, hl, hvi, hbi⟩ := hv i hi
    have hbl := h.ok.blk_len hi
    exact ⟨_, cap, by rw [hvi]; show _ = some (Value.slice _ (c.blk i).length _); rw [hbl], hbi.row⟩
  have hcat := slices_Concat_spec (cp := L.cb) hs (by rw [h.ok.bl]; have := h.ok.nb2; omega) (by have := h.ok.bytes_le; omega)
  rw [h.ok.bl] at hcat
  refine hcat.mono ?_
  rintro _ w' ⟨he, a', c', rfl, ho, hf⟩
  exact ⟨_, _, _, rfl, he, a', c', rfl, ho, hf⟩

end Go.Den
