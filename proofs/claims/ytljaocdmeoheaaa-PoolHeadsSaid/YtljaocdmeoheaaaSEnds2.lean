/- Contracts of layer 1 (ends) and of its reference: numbers taken off; the reference. -/
import Derived.Test.YtljaocdmeoheaaaSEnds
set_option linter.unusedVariables false
set_option linter.unusedSimpArgs false
namespace Go.Den

theorem fromLE_take_succ (l : List UInt8) (i : Nat) (h : i < l.length) : fromLE (l.take (i + 1)) = fromLE (l.take i) + 256 ^ i * (l.getD i 0).toNat := by
  rw [List.take_succ_eq_append_getElem h, fromLE_append, List.length_take, Nat.min_eq_left (by omega)]
  simp [fromLE, List.getD, h]

theorem or_add (a b i : Nat) (ha : a < 256 ^ i) (hb : b < 256) (hi : i < 8) :
    IntKind.u64.wrap (((BitVec.ofInt (IntKind.bits .u64) (a : Int) ||| BitVec.ofInt (IntKind.bits .u64) (IntKind.u64.wrap ((IntKind.u64.wrap (b : Int)) * 2 ^ (min (Int.toNat (IntKind.u64.wrap (IntKind.i64.wrap (8 * (i : Int))))) (IntKind.bits .u64))))).toNat : Nat) : Int) = ((a + 256 ^ i * b : Nat) : Int) := by
  show IntKind.u64.wrap (((BitVec.ofInt 64 (a : Int) ||| BitVec.ofInt 64 (IntKind.u64.wrap ((IntKind.u64.wrap (b : Int)) * 2 ^ (min (Int.toNat (IntKind.u64.wrap (IntKind.i64.wrap (8 * (i : Int))))) 64)))).toNat : Nat) : Int) = ((a + 256 ^ i * b : Nat) : Int)
  have e0 : (256 : Nat) ^ i = 2 ^ (8 * i) := by rw [Nat.pow_mul]
  have h8 : (256 : Nat) ^ (i + 1) ≤ 256 ^ 8 := Nat.pow_le_pow_right (by omega) (by omega)
  rw [Nat.pow_succ] at h8
  have h88 : (256 : Nat) ^ 8 = 18446744073709551616 := by decide
  have hab : 256 ^ i * b < 18446744073709551616 := by
    have : 256 ^ i * b < 256 ^ i * 256 := Nat.mul_lt_mul_of_pos_left hb (Nat.pow_pos (by omega))
    omega
  have hsum : a + 256 ^ i * b < 18446744073709551616 := by
    have : 256 ^ i * b + 256 ^ i ≤ 256 ^ i * 256 := by
      rw [← Nat.mul_succ]; exact Nat.mul_le_mul_left _ (by omega)
    omega
  have q1 : IntKind.i64.wrap (8 * (i : Int)) = 8 * i := w64 (by omega) (by omega)
  have q2 : IntKind.u64.wrap (8 * (i : Int)) = 8 * i := wu64 (by omega) (by omega)
  have q3 : IntKind.u64.wrap (b : Int) = b := wu64 (by omega) (by omega)
  rw [q1, q2, q3]
  have e1 : (8 * (i : Int)).toNat = 8 * i := by omega
  have e2 : min (8 * i) 64 = 8 * i := by omega
  rw [e1, e2, pow_shift]
  have e3 : (b : Int) * ((256 ^ i : Nat) : Int) = ((256 ^ i * b : Nat) : Int) := by rw [Nat.mul_comm]; exact (Int.natCast_mul _ _).symm
  have q4 : IntKind.u64.wrap ((256 ^ i * b : Nat) : Int) = ((256 ^ i * b : Nat) : Int) := wu64 (Int.natCast_nonneg _) (by omega)
  rw [e3, q4]
  have e4 : ∀ n : Nat, n < 18446744073709551616 → (BitVec.ofInt 64 (n : Int)).toNat = n := by
    intro n hn
    rw [BitVec.ofInt_natCast, BitVec.toNat_ofNat]
    exact Nat.mod_eq_of_lt hn
  rw [BitVec.toNat_or, e4 a (by omega), e4 _ hab]
  have e5 : a ||| 256 ^ i * b = a + 256 ^ i * b := by
    rw [e0, Nat.or_comm, Nat.add_comm, Nat.two_pow_add_eq_or_of_lt (by rw [← e0]; exact ha)]
  rw [e5, wu64 (Int.natCast_nonneg _) (by omega)]

theorem ends_Reader_Take_spec (r k : Nat) (l : List UInt8) (no : Bool) (w : World) (hk : isSz k = true) (h : ReaderAt w r l no) :
    CallsR prog K.ends_Reader_Take #[.pointer (some ⟨r, 0, none⟩), .int .i64 k] w fun v w' => Upd (· = r) w w' ∧
      if no = true ∨ l.length < k then v = .tuple #[.int .u64 0, .int .i64 4] ∧ ReaderAt w' r l true
      else v = .tuple #[.int .u64 (fromLE (l.take k)), .int .i64 0] ∧ ReaderAt w' r (l.drop k) false := by
  have hk8 : k ≤ 8 := by rcases isSz_cases hk with rfl | rfl | rfl | rfl <;> omega
  apply ends_Reader_Take.sh
  unfold ends_Reader_Take.body
  refine (ends_Reader_off_spec r l no w h).mono ?_
  rintro _ _ ⟨rfl, rfl⟩
  refine ⟨_, rfl, ?_⟩
  rw [br_false]
  refine (ends_isSize_spec _ _).mono ?_
  rintro _ w ⟨rfl, rfl⟩
  refine ⟨_, rfl, ?_⟩
  rw [hk]
  simp only [Bool.not_true, br_false]
  refine (ends_Reader_cut_spec r k l no w h).mono ?_
  rintro v w₁ ⟨hupd, hv⟩
  split at hv
  · rename_i hc
    obtain ⟨rfl, hr⟩ := hv
    refine ⟨_, _, _, _, rfl, fun x y u => x = 0 ∧ y = 0 ∧ u = w₁, fun _ _ _ => 0, ⟨rfl, rfl, rfl⟩, ?_⟩
    rintro x y u ⟨rfl, rfl, rfl⟩
    simp only [Int.natCast_zero, Int.lt_irrefl, decide_false, br_false]
    rw [if_pos hc]
    exact ⟨hupd, trivial, hr⟩
  · rename_i hc
    obtain ⟨a, c, rfl, hb, hr⟩ := hv
    have hkl : k ≤ l.length := by
      rcases Nat.lt_or_ge l.length k with h' | h'
      · exact absurd (.inr h') hc
      · exact h'
    have hlen : (l.take k).length = k := by simp; omega
    refine ⟨_, _, _, _, rfl, fun x y u => ∃ i : Nat, y = i ∧ i ≤ k ∧ x = (fromLE ((l.take k).take i) : Nat) ∧ u = w₁, fun _ y _ => ((k : Int) - y).toNat, ⟨0, rfl, by omega, rfl, rfl⟩, ?_⟩
    rintro x y u ⟨i, rfl, hi, rfl, rfl⟩
    refine br_dec (fun hlt => ?_) fun hge => ?_
    · have hlt' : i < k := by omega
      have hb' := hb
      rw [show k = (l.take k).length from hlen.symm]
      refine idx_byte hb (by omega) (by omega) ?_
      rw [hlen]
      simp only [Int.toNat_natCast]
      have hlt2 := fromLE_lt ((l.take k).take i)
      have hi2 : ((l.take k).take i).length = i := by simp; omega
      rw [hi2] at hlt2
      rw [or_add _ _ i hlt2 (UInt8.toNat_lt _) (by omega), ← fromLE_take_succ _ i (by omega)]
      refine ⟨by rw [w64 (by omega) (by omega), wu64 (by omega) (by omega)]; omega, ?_, ?_⟩
      · rw [w64 (by omega) (by omega)]
        exact ⟨i + 1, by omega, by omega, rfl, by trivial⟩
      · rw [w64 (by omega) (by omega)]; omega
    · have : i = k := by omega
      subst this
      rw [if_neg hc, List.take_of_length_le (by omega)]
      exact ⟨hupd, rfl, hr⟩


end Go.Den
