/- Layer 4's law PoolNil: of nothing, nothing. -/
import Derived.Test.YtljaocdmeoheaaaSLaw4
set_option linter.unusedVariables false
set_option linter.unusedSimpArgs false
set_option maxRecDepth 4000
namespace Go.Den

/-- no pool, or a zero one -/
def NoPool (w : World) (p : Option Addr) : Prop := p = none ∨ ∃ B, p = some ⟨B, 0, none⟩ ∧ w.heap[B]? = some (.cells #[.pointer none, .slice none 0 0, .int .u64 0, .int .i64 0] T.pool_Pool (0, 0))
theorem noPool_off {w : World} {p : Option Addr} (h : NoPool w p) : CallsR prog K.pool_Pool_off #[.pointer p] w fun v w' => v = .bool true ∧ w' = w := by
  apply pool_Pool_off.sh
  rcases h with rfl | ⟨B, rfl, hc⟩
  · simp only [pool_Pool_off.body, Option.isNone_none, br_true]
    exact ⟨by trivial, by trivial⟩
  · simp only [pool_Pool_off.body, Option.isNone_some, br_false, nilC_some', add_lit]
    exact ⟨none, 0, 0, cell_of hc rfl, rfl, by trivial⟩
theorem noPool_Take {w : World} {p : Option Addr} (h : NoPool w p) (k e : Int) : CallsR prog K.pool_Pool_Take #[.pointer p, .int .u8 k, .int .u32 e] w fun v w' => v = .tuple #[.int .i64 0, .int .i64 1] ∧ w' = w := by
  apply pool_Pool_Take.sh
  refine (noPool_off h).mono ?_
  rintro _ _ ⟨rfl, rfl⟩
  exact ⟨_, rfl, by trivial, by trivial⟩
theorem noPool_Free {w : World} {p : Option Addr} (h : NoPool w p) (i : Int) : CallsR prog K.pool_Pool_Free #[.pointer p, .int .i64 i] w fun v w' => v = .int .i64 1 ∧ w' = w := by
  apply pool_Pool_Free.sh
  refine (noPool_off h).mono ?_
  rintro _ _ ⟨rfl, rfl⟩
  exact ⟨_, rfl, by trivial, by trivial⟩
theorem noPool_Taken {w : World} {p : Option Addr} (h : NoPool w p) : CallsR prog K.pool_Pool_Taken #[.pointer p] w fun v w' => v = .slice none 0 0 ∧ w' = w := by
  apply pool_Pool_Taken.sh
  refine (noPool_off h).mono ?_
  rintro _ _ ⟨rfl, rfl⟩
  exact ⟨_, rfl, by trivial, by trivial⟩
theorem noPool_Blanks {w : World} {p : Option Addr} (h : NoPool w p) : CallsR prog K.pool_Pool_Blanks #[.pointer p] w fun v w' => v = .int .i64 0 ∧ w' = w := by
  apply pool_Pool_Blanks.sh
  refine (noPool_off h).mono ?_
  rintro _ _ ⟨rfl, rfl⟩
  exact ⟨_, rfl, by trivial, by trivial⟩
theorem noPool_Last {w : World} {p : Option Addr} (h : NoPool w p) : CallsR prog K.pool_Pool_Last #[.pointer p] w fun v w' => v = .int .u64 0 ∧ w' = w := by
  apply pool_Pool_Last.sh
  refine (noPool_off h).mono ?_
  rintro _ _ ⟨rfl, rfl⟩
  exact ⟨_, rfl, by trivial, by trivial⟩
theorem noPool_Chip {w : World} {p : Option Addr} (h : NoPool w p) : CallsR prog K.pool_Pool_Chip #[.pointer p] w fun v w' => v = .pointer none ∧ w' = w := by
  apply pool_Pool_Chip.sh
  refine (noPool_off h).mono ?_
  rintro _ _ ⟨rfl, rfl⟩
  exact ⟨_, rfl, by trivial, by trivial⟩

def zeroChip : Array Value := #[Value.int .i64 0, Value.int .i64 0, Value.int .i64 0, Value.int .i64 0, Value.slice none 0 0, Value.slice none 0 0, Value.slice none 0 0, Value.int .i64 0, Value.bool false, Value.int .i64 0]
theorem zero_Scan {w : World} {p : Option Addr} (h : p = none ∨ ∃ B, p = some ⟨B, 0, none⟩ ∧ w.heap[B]? = some (.cells zeroChip T.nand_Chip (0, 0))) : CallsR prog K.pool_Scan #[.pointer p] w fun v w' => v = .tuple #[.pointer none, .int .i64 1] ∧ Ext w w' := by
  apply pool_Scan.sh
  refine ⟨fun _ => False, ?_, fun _ h => h.elim⟩
  rcases h with rfl | ⟨B, rfl, hc⟩
  · simp only [Option.isNone_none, br_true]
    exact ⟨by trivial, Upd.refl _ _⟩
  · simp only [Option.isNone_some, br_false]
    have geo : CallsR prog K.nand_Chip_Geo #[.pointer (some ⟨B, 0, none⟩)] w fun v w' => v = .agg #[.int .i64 0, .int .i64 0, .int .i64 0, .int .i64 0] ∧ Ext w w' := by
      apply nand_Chip_Geo.sh
      intro B₁ w₁ hn
      have hc1 := Ext.get hn.upd hc
      have off : CallsR prog K.nand_Chip_off #[.pointer (some ⟨B, 0, none⟩)] w₁ fun v w' => v = .bool true ∧ w' = w₁ := by
        apply nand_Chip_off.sh
        simp only [nand_Chip_off.body, Option.isNone_some, br_false, nilC_some', add_lit]
        exact ⟨none, 0, 0, cell_of hc1 rfl, rfl, by trivial⟩
      refine off.mono ?_
      rintro _ _ ⟨rfl, rfl⟩
      refine ⟨_, rfl, ?_⟩
      simp only [br_true]
      refine store_of hn.get (by simp) fun w₂ hput => ?_
      have hg := hput.get
      rw [splice_all _ _ (by simp)] at hg
      refine ⟨0, 0, 0, 0, cellsAt_of (o := 0) hg (fun j v hj => by simpa using hj), rfl, Put.upd hn.upd hput (.inl (by have := hn.num; omega))⟩
    refine geo.mono ?_
    rintro _ w₁ ⟨rfl, he⟩
    refine ⟨0, 0, 0, 0, rfl, ?_⟩
    exact br_eq (fun _ => ⟨by trivial, he⟩) fun h => (h rfl).elim

theorem carracklaw04_PoolNil_spec (i k e : Int) (zero : Bool) (w : World) : CallsR prog K.carracklaw04_PoolNil #[.int .i64 i, .int .u8 k, .int .u32 e, .bool zero] w fun v w' => v = .bool true ∧ Ext w w' := by
  apply carracklaw04_PoolNil.sh
  unfold carracklaw04_PoolNil.body
  refine br_intro (fun _ => ?_) fun _ => ?_
  · intro B₁ w₁ hn1 B₂ w₂ hn2
    refine (zero_Scan (.inr ⟨B₁, rfl, Ext.get hn2.upd hn1.get⟩)).mono ?_
    rintro _ w₃ ⟨rfl, he3⟩
    have e3 : Ext w w₃ := (hn1.upd.trans hn2.upd).trans he3
    have hp : NoPool w₃ (some ⟨B₂, 0, none⟩) := .inr ⟨B₂, rfl, Ext.get he3 hn2.get⟩
    refine ⟨_, _, rfl, (noPool_Take hp k e).mono ?_⟩
    rintro _ _ ⟨rfl, rfl⟩
    refine ⟨_, _, rfl, br_intro (fun _ => br_eq (fun _ => br_eq (fun _ => ?_) fun h => (h rfl).elim) fun h => (h rfl).elim) fun h => by cases h⟩
    refine (noPool_Free hp i).mono ?_
    rintro _ _ ⟨rfl, rfl⟩
    refine ⟨_, rfl, br_eq (fun _ => ?_) fun h => (h rfl).elim⟩
    refine (noPool_Taken hp).mono ?_
    rintro _ _ ⟨rfl, rfl⟩
    refine ⟨_, _, _, rfl, br_eq (fun _ => ?_) fun h => (h rfl).elim⟩
    refine (noPool_Blanks hp).mono ?_
    rintro _ _ ⟨rfl, rfl⟩
    refine ⟨_, rfl, br_eq (fun _ => ?_) fun h => (h rfl).elim⟩
    refine (noPool_Last hp).mono ?_
    rintro _ _ ⟨rfl, rfl⟩
    refine ⟨_, rfl, br_eq (fun _ => ?_) fun h => (h rfl).elim⟩
    refine (noPool_Chip hp).mono ?_
    rintro _ _ ⟨rfl, rfl⟩
    refine ⟨_, rfl, br_intro (fun _ => ?_) fun h => by cases h⟩
    refine (carracklaw04_works_spec _).mono ?_
    rintro _ w₁₀ ⟨rfl, he⟩
    exact ⟨_, rfl, rfl, e3.trans he⟩
  · refine (zero_Scan (.inl rfl)).mono ?_
    rintro _ w₃ ⟨rfl, he3⟩
    have hp : NoPool w₃ none := .inl rfl
    refine ⟨_, _, rfl, (noPool_Take hp k e).mono ?_⟩
    rintro _ _ ⟨rfl, rfl⟩
    refine ⟨_, _, rfl, br_intro (fun _ => br_eq (fun _ => br_eq (fun _ => ?_) fun h => (h rfl).elim) fun h => (h rfl).elim) fun h => by cases h⟩
    refine (noPool_Free hp i).mono ?_
    rintro _ _ ⟨rfl, rfl⟩
    refine ⟨_, rfl, br_eq (fun _ => ?_) fun h => (h rfl).elim⟩
    refine (noPool_Taken hp).mono ?_
    rintro _ _ ⟨rfl, rfl⟩
    refine ⟨_, _, _, rfl, br_eq (fun _ => ?_) fun h => (h rfl).elim⟩
    refine (noPool_Blanks hp).mono ?_
    rintro _ _ ⟨rfl, rfl⟩
    refine ⟨_, rfl, br_eq (fun _ => ?_) fun h => (h rfl).elim⟩
    refine (noPool_Last hp).mono ?_
    rintro _ _ ⟨rfl, rfl⟩
    refine ⟨_, rfl, br_eq (fun _ => ?_) fun h => (h rfl).elim⟩
    refine (noPool_Chip hp).mono ?_
    rintro _ _ ⟨rfl, rfl⟩
    refine ⟨_, rfl, br_intro (fun _ => ?_) fun h => by cases h⟩
    refine (carracklaw04_works_spec _).mono ?_
    rintro _ w₁₀ ⟨rfl, he⟩
    exact ⟨_, rfl, rfl, he3.trans he⟩

end Go.Den
