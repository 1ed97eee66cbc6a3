/- What the reading of a body says of the machine: the theorem of the reading. -/
import Derived.Test.YtljaocdmeoheaaaDenCode
import Derived.Scope
set_option linter.unusedSimpArgs false
namespace Go.Den
variable {P : Program}

/-- the slots outside ts are as they were -/
def SameBut (ts : List Nat) (a a' : Act) : Prop := ∀ t, t ∉ ts → a'.tmps[t]? = a.tmps[t]?
theorem SameBut.refl (ts : List Nat) (a : Act) : SameBut ts a a := fun _ _ => rfl
theorem SameBut.trans {ts : List Nat} {a b c : Act} (h : SameBut ts a b) (k : SameBut ts b c) : SameBut ts a c := fun t ht => (k t ht).trans (h t ht)
theorem SameBut.mono {ts us : List Nat} {a b : Act} (h : SameBut ts a b) (hs : ∀ t, t ∈ ts → t ∈ us) : SameBut us a b := fun t ht => h t fun hm => ht (hs t hm)
theorem SameBut.put {ts : List Nat} (a : Act) (d : Option Tmp) (v : Value) (hd : ∀ t, d = some t → t ∈ ts) : SameBut ts a (a.put d v) := by
  intro t ht
  cases d with
  | none => rfl
  | some d =>
    have : d ≠ t := fun e => ht (hd t (by rw [e]))
    simp [Act.put, Array.getElem?_setIfInBounds_ne this]
theorem size_put (a : Act) (d : Option Tmp) (v : Value) : (a.put d v).tmps.size = a.tmps.size := by cases d <;> simp [Act.put]

theorem putE_sound {n : Nat} {dst : Option Tmp} {v : Value} {ε : Env} {K : Env → Prop} {a : Act} (hε : EnvOk ε a) (hn : a.tmps.size = n) (h : putE n dst v ε K) : ∃ ε', EnvOk ε' (a.put dst v) ∧ K ε' := by
  unfold putE at h
  cases dst with
  | none => exact ⟨ε, hε, h⟩
  | some d =>
    simp only at h
    by_cases hd : d < n
    · have hd' : d < a.tmps.size := Nat.lt_of_lt_of_eq hd hn.symm
      rw [if_pos hd] at h
      exact ⟨_, hε.put hd' v, h⟩
    · rw [if_neg hd] at h; exact h.elim

/-- what a guard says -/
theorem guard_sound {ops : Array Oper} {o : Oper} {ε : Env} {K : Bool → Env → Prop} {a : Act} (hε : EnvOk ε a) (h : guardP ops.toList o ε K) :
    ∃ run ε', Region.wanted o (yielded ops a.tmps) = run ∧ EnvOk ε' a ∧ K run ε' := by
  unfold guardP at h
  unfold Region.wanted
  split at h
  · rename_i hg; simp only [hg]; exact ⟨true, ε, rfl, hε, h⟩
  · rename_i j want hg
    simp only [hg]
    have hslot : (ops[j]?).bind (·.dst) = slotOf ops.toList j := by
      unfold slotOf; rw [Array.getElem?_toList]; cases ops[j]? <;> rfl
    split at h
    · rename_i hs
      refine ⟨false, ε, ?_, hε, h⟩
      simp [yielded, hslot, hs]
    · rename_i d hs
      split at h
      · rename_i b hb
        have ha := hε.2 d _ hb
        have hy : yielded ops a.tmps j = some b := by simp [yielded, hslot, hs, ha]
        have hε' : EnvOk ((d, .bool b) :: ε) a := ⟨hε.1, fun t v hv => by
          simp only [Env.get] at hv
          split at hv
          · rename_i e; subst e; cases hv; exact ha
          · exact hε.2 t v hv⟩
        cases b with
        | true => exact ⟨want, _, by rw [hy]; cases want <;> rfl, hε', h⟩
        | false => exact ⟨!want, _, by rw [hy]; cases want <;> rfl, hε', h⟩
      · rename_i v hv hd
        have ha := hε.2 d _ hd
        refine ⟨false, ε, ?_, hε, h⟩
        have hy : yielded ops a.tmps j = none := by
          simp only [yielded, hslot, hs, Option.bind_some, ha]
          cases v <;> first | rfl | (exact (hv _ rfl).elim)
        simp [hy]
      · exact h.elim

theorem C_mono (w : World) : ∀ φ ψ : World → Prop, (∀ w, φ w → ψ w) → (fun φ : World → Prop => φ w) φ → (fun φ : World → Prop => φ w) ψ := fun _ _ h hφ => h _ hφ
theorem CS_mono (S : World → Prop) : ∀ φ ψ : World → Prop, (∀ w, φ w → ψ w) → (fun φ : World → Prop => ∀ u, S u → φ u) φ → (fun φ : World → Prop => ∀ u, S u → φ u) ψ := fun _ _ h hφ u hu => h _ (hφ u hu)

theorem op_sound {n : Nat} {o : Oper} {ε : Env} {a : Act} {w : World} {K : Env → World → Prop} {next : Act → World → Prop} {Q : Exit → Act → World → Prop} (hε : EnvOk ε a) (hn : a.tmps.size = n)
    (h : opP P n o ε w K) (hnext : ∀ v ε' w', EnvOk ε' (a.put o.dst v) → K ε' w' → next (a.put o.dst v) w') : o.wp P a w next Q := by
  unfold opP at h
  split at h
  · obtain ⟨v, hk, hw⟩ := quiet_sound hε (C_mono w) (fun φ hφ => hφ w) h
    obtain ⟨ε', hε', hk⟩ := putE_sound hε hn hk
    unfold Oper.wp
    rw [hw]
    exact hnext v ε' w hε' hk
  · refine eff_sound hε h fun v w' hk => ?_
    obtain ⟨ε', hε', hk⟩ := putE_sound hε hn hk
    exact hnext v ε' w' hε' hk

abbrev wrOps (ops : Array Oper) : List Nat := ops.toList.filterMap (·.dst)
theorem mem_wrOps {ops : Array Oper} {i : Nat} {o : Oper} (h : ops[i]? = some o) {t : Nat} (ht : o.dst = some t) : t ∈ wrOps ops :=
  List.mem_filterMap.2 ⟨o, by rw [← Array.getElem?_toList] at h; exact List.mem_of_getElem? h, ht⟩

theorem ops_sound {n : Nat} {ops : Array Oper} {Q : Exit → Act → World → Prop} {K : Env → World → Prop} : ∀ (l : List Nat) (ε : Env) (w : World) (a : Act), opsP P n ops.toList l ε w K → EnvOk ε a → a.tmps.size = n →
    (∀ ε' a' w', EnvOk ε' a' → a'.tmps.size = n → SameBut (wrOps ops) a a' → K ε' w' → Q .normal a' w') → wpOps P ops Q l a w
  | [], ε, w, a, h, hε, hn, hq => hq ε a w hε hn (SameBut.refl _ _) h
  | i :: rest, ε, w, a, h, hε, hn, hq => by
    simp only [opsP] at h
    simp only [wpOps]
    split at h
    · exact h.elim
    · rename_i o ho
      rw [Array.getElem?_toList] at ho
      simp only [ho]
      obtain ⟨run, ε₁, hrun, hε₁, h⟩ := guard_sound hε h
      have hmem : ∀ t, o.dst = some t → t ∈ wrOps ops := fun t ht => mem_wrOps ho ht
      cases run with
      | true =>
        simp only [hrun, if_true]
        refine .inl (op_sound hε₁ hn h fun v ε' w' hε' hk => ?_)
        exact ops_sound rest ε' w' _ hk hε' (by rw [size_put]; exact hn) (fun ε'' a'' w'' h1 h2 h3 h4 => hq ε'' a'' w'' h1 h2 ((SameBut.put a o.dst v hmem).trans h3) h4)
      | false =>
        simp only [hrun, Bool.false_eq_true, if_false]
        obtain ⟨ε', hε', hk⟩ := putE_sound hε₁ hn h
        exact ops_sound rest ε' w _ hk hε' (by rw [size_put]; exact hn) (fun ε'' a'' w'' h1 h2 h3 h4 => hq ε'' a'' w'' h1 h2 ((SameBut.put a o.dst _ hmem).trans h3) h4)

/-! ### A region whose order is drawn -/
def Listed (listed : Array Bool) (m : Nat) (ex : List Nat) : Prop := listed.size = m ∧ (∀ i ∈ ex, i < m) ∧ ∀ j, listed.getD j false = ex.contains j
theorem Listed.start (m : Nat) : Listed (Array.replicate m false) m [] := ⟨by simp, by simp, fun j => by
  by_cases h : j < m <;> simp [Array.getElem?_replicate, h]⟩
theorem Listed.step {listed : Array Bool} {m : Nat} {ex : List Nat} (h : Listed listed m ex) {i : Nat} (hi : i < m) : Listed (listed.setIfInBounds i true) m (i :: ex) := by
  refine ⟨by simp [h.1], fun j hj => ?_, fun j => ?_⟩
  · rcases List.mem_cons.1 hj with rfl | hj
    · exact hi
    · exact h.2.1 j hj
  · by_cases hij : i = j
    · subst hij; simp [h.1, hi]
    · rw [getD_set_ne false hij, h.2.2 j]
      simp only [List.contains_cons]
      have : (j == i) = false := by simp; exact fun e => hij e.symm
      simp [this]
theorem Listed.getT {listed : Array Bool} {m : Nat} {ex : List Nat} (h : Listed listed m ex) {j : Nat} (hj : j < m) : listed.getD j true = ex.contains j := by
  rw [← h.2.2 j]
  have : j < listed.size := by rw [h.1]; exact hj
  simp [this]

theorem ready_eq {ops : Array Oper} {listed : Array Bool} {ex : List Nat} (h : Listed listed ops.size ex) : Region.ready .any ops listed = readyL ops.toList ex := by
  unfold Region.ready readyL
  rw [Array.length_toList]
  refine List.filter_congr fun i hi => ?_
  have hi' : i < ops.size := by simpa using hi
  rw [h.getT hi', Array.getElem?_toList]
  congr 1
  cases ops[i]? with
  | none => rfl
  | some o =>
    simp only [Option.map_some, Option.getD_some]
    rw [← Array.all_toList]
    congr 1
    funext e
    rw [h.2.2]

theorem opds_eq (o : Op) (hs : ∀ cs b, o ≠ .select cs b) : o.operands.toList = opdsL o := by
  cases o <;> first
    | exact absurd rfl (hs _ _)
    | (simp [Op.operands, opdsL, opdsL.callL, Call.operands]; done)
    | (rename_i c; cases hc : c.callee <;> simp [Op.operands, opdsL, opdsL.callL, Call.operands, hc]; done)
    | (rename_i l h m; cases l <;> cases h <;> cases m <;> simp [Op.operands, opdsL]; done)
    | (rename_i r; cases r <;> simp [Op.operands, opdsL]; done)

theorem noSel_spec {ops : Array Oper} (h : noSelL ops.toList = true) : Region.noSelect ops = true := by
  unfold noSelL at h
  unfold Region.noSelect
  rw [← Array.all_toList]
  exact h

theorem looks_eq {ops : Array Oper} {o : Oper} (hs : ∀ cs b, o.op ≠ .select cs b) : o.looksAt ops = looksL ops.toList o := by
  unfold Oper.looksAt looksL
  rw [opds_eq _ hs]
  congr 1
  cases o.guard with
  | none => rfl
  | some g =>
    obtain ⟨g, _⟩ := g
    simp only [slotOf]
    rw [Array.getElem?_toList]
    cases ops[g]? <;> rfl

theorem free_eq {ops : Array Oper} (hs : Region.noSelect ops = true) {listed : Array Bool} {ex : List Nat} (h : Listed listed ops.size ex) {i : Nat} (hf : freeL ops.toList ex i = true) : Region.free .any ops listed i = true := by
  unfold freeL at hf
  unfold Region.free
  rw [Array.getElem?_toList] at hf
  split at hf
  · cases hf
  · rename_i oi hoi
    simp only [hoi]
    rw [List.all_eq_true] at hf ⊢
    intro j hj
    have hj' : j < ops.size := by simpa using hj
    have := hf j (by rw [Array.length_toList]; exact hj)
    rw [Array.getElem?_toList] at this
    rw [h.getT hj']
    cases hoj : ops[j]? with
    | none => simp
    | some oj =>
      simp only [hoj] at this
      have si := Region.noSelect_spec hs i oi
      have sj := Region.noSelect_spec hs j oj
      have ha : oi.apart ops oj = apartL ops.toList oi oj := by
        unfold Oper.apart apartL
        rw [looks_eq (fun cs b => si cs b hoi), looks_eq (fun cs b => sj cs b hoj)]
        rfl
      simp only [ha]
      rw [← Array.any_toList]
      exact this

/-! An operation that reads alone may be taken first; what it reads is to be kept by those that may come ahead of it. -/
/-- o leaves v, in every world (in every one of S, if it loads) -/
def YN (P : Program) (ops : Array Oper) (S : World → Prop) (o : Oper) (v : Value) (a : Act) : Prop :=
  (Region.wanted o (yielded ops a.tmps) = true ∧ ∀ w, (isLoad o.op = true → S w) → (execOp a.eval o).run P w = .ok (.value v) w) ∨
  (Region.wanted o (yielded ops a.tmps) = false ∧ v = undef)
/-- what an operation must keep: a quiet one the world, another one S, where a load may follow -/
def keepS (P : Program) (ops : Array Oper) (S : World → Prop) (i : Nat) (w w' : World) : Prop :=
  (∃ o, ops[i]? = some o ∧ isQuiet P o.op = true ∧ w' = w) ∨ (needA ops.toList i = true → S w')
/-- whatever comes up, in whatever order; S is kept where a load may follow -/
def wpN (P : Program) (ops : Array Oper) (Q : Exit → Act → World → Prop) (S : World → Prop) : Nat → Array Bool → Act → World → Prop
  | 0, L, a, w => Region.ready .any ops L = [] ∧ Q .normal a w
  | n + 1, L, a, w => (Region.ready .any ops L = [] → Q .normal a w) ∧
      ∀ i ∈ Region.ready .any ops L, wpOp P ops Q i (fun a' w' => keepS P ops S i w w' ∧ wpN P ops Q S n (L.setIfInBounds i true) a' w') a w
theorem wpN_any {ops : Array Oper} {Q : Exit → Act → World → Prop} {S : World → Prop} : ∀ (n : Nat) (L : Array Bool) (a : Act) (w : World), wpN P ops Q S n L a w → wpAny P .any ops Q n L a w
  | 0, _, _, _, h => h
  | n + 1, _, _, _, h => ⟨h.1, fun i hi => wpOp_mono (fun a' w' h' => wpN_any n _ a' w' h'.2) (h.2 i hi)⟩
theorem YN.same {ops : Array Oper} {S : World → Prop} {o : Oper} {v : Value} {a a' : Act} (hy : YN P ops S o v a) (he : execOp a'.eval o = execOp a.eval o)
    (hw : Region.wanted o (yielded ops a'.tmps) = Region.wanted o (yielded ops a.tmps)) : YN P ops S o v a' := by
  unfold YN at *
  rw [he, hw]
  exact hy
theorem YN.here {ops : Array Oper} {Q : Exit → Act → World → Prop} {S : World → Prop} {i : Nat} {o : Oper} {v : Value} {a : Act} (hi : ops[i]? = some o) (hy : YN P ops S o v a) {K : Act → World → Prop} {w : World}
    (hS : isLoad o.op = true → S w) (h : K (a.put o.dst v) w) : wpOp P ops Q i K a w := by
  unfold Go.wpOp
  simp only [hi]
  rcases hy with ⟨hw, hv⟩ | ⟨hw, rfl⟩
  · rw [if_pos hw]
    refine .inl ?_
    unfold Oper.wp
    rw [hv w hS]
    exact h
  · rw [if_neg (by simp [hw])]
    exact h
/-- one operation apart from oi: whether oi's value lies there already makes no difference -/
theorem wpOp_swap {ops : Array Oper} {Q : Exit → Act → World → Prop} {S : World → Prop} {j : Nat} {oi oj : Oper} {v : Value} (hj : ops[j]? = some oj) (hap : oi.apart ops oj = true)
    (hsi : ∀ cs b, oi.op ≠ .select cs b) (hsj : ∀ cs b, oj.op ≠ .select cs b) (hQ : ∀ c a w, ¬ Q (.panic c) a w) {K : Act → World → Prop} {a : Act} {w : World}
    (hy : YN P ops S oi v a) (h : wpOp P ops Q j K (a.put oi.dst v) w) : wpOp P ops Q j (fun a' w' => YN P ops S oi v a' ∧ K (a'.put oi.dst v) w') a w := by
  obtain ⟨h1, h2, h3⟩ := Oper.apart_spec hap
  have keep : ∀ (a : Act), YN P ops S oi v a → ∀ u, YN P ops S oi v (a.put oj.dst u) := fun a hy u => hy.same (execOp_put oi hsi a oj.dst u h3) (wanted_put oi a oj.dst u h3)
  unfold Go.wpOp at h ⊢
  simp only [hj] at h ⊢
  rw [wanted_put oj a oi.dst v h1] at h
  by_cases hw : Region.wanted oj (yielded ops a.tmps) = true
  · rw [if_pos hw] at h ⊢
    rcases h with h | ⟨hasks, hlets⟩
    · refine .inl ?_
      unfold Oper.wp at h ⊢
      rw [execOp_put oj hsj a oi.dst v h1] at h
      cases hr : (execOp a.eval oj).run P w with
      | ok n w' =>
        rw [hr] at h
        cases n with
        | value u =>
          simp only [Oper.upon] at h ⊢
          exact ⟨keep a hy u, by rw [← Act.put_comm a v u h2]; exact h⟩
        | skip =>
          simp only [Oper.upon] at h ⊢
          exact ⟨keep a hy _, by rw [← Act.put_comm a v undef h2]; exact h⟩
        | defer d =>
          simp only [Oper.upon] at h ⊢
          have hy' : YN P ops S oi v { tmps := a.tmps, defers := d :: a.defers } := hy.same rfl rfl
          refine ⟨keep _ hy' _, ?_⟩
          rw [← Act.put_comm _ v undef h2, ← Act.put_defers]
          exact h
        | enter f args =>
          simp only [Oper.upon] at h ⊢
          refine Calls.mono h fun e w'' he => ?_
          cases e with
          | returned u => exact ⟨keep a hy u, by rw [← Act.put_comm a v u h2]; exact he⟩
          | panicked c => exact (hQ _ _ _ he).elim
          | outgrown => exact he
        | row row args =>
          simp only [Oper.upon] at h ⊢
          exact Rows.mono h fun u w'' he => ⟨keep a hy u, by rw [← Act.put_comm a v u h2]; exact he⟩
        | _ => simp only [Oper.upon] at h
      | halt x w' =>
        rw [hr] at h
        cases x <;> simp only [Oper.upon] at h
        exact (hQ _ _ _ h).elim
    · exact .inr ⟨by unfold Oper.asks at *; rw [execOp_put oj hsj a oi.dst v h1] at hasks; exact hasks, hlets⟩
  · rw [if_neg hw] at h ⊢
    exact ⟨keep a hy _, by rw [← Act.put_comm a v undef h2]; exact h⟩
theorem needA_true {ops : Array Oper} {i j : Nat} {oi oj : Oper} (hi : ops[i]? = some oi) (hj : ops[j]? = some oj) (hld : isLoad oi.op = true) (hne : i ≠ j) (hno : ∀ e ∈ oj.after, Region.binds .any e = true → e.on ≠ i) : needA ops.toList j = true := by
  unfold needA
  rw [List.any_eq_true]
  refine ⟨i, by simp; exact (Array.getElem?_eq_some_iff.1 hi).1, ?_⟩
  rw [Array.getElem?_toList, Array.getElem?_toList, hi, hj]
  simp only [hld, Bool.true_and, Bool.and_eq_true, bne_iff_ne, ne_eq, Bool.not_eq_true']
  refine ⟨hne, ?_⟩
  rw [Bool.eq_false_iff]
  intro h
  obtain ⟨e, he, hb⟩ := List.any_eq_true.1 h
  simp only [Bool.and_eq_true, beq_iff_eq] at hb
  exact hno e (by simpa using he) hb.1 hb.2
theorem wpN_first {ops : Array Oper} {Q : Exit → Act → World → Prop} {S : World → Prop} {i : Nat} {oi : Oper} {v : Value} (hi : ops[i]? = some oi) (hqi : isQuiet P oi.op = true) (hsel : Region.noSelect ops = true) (hQ : ∀ c a w, ¬ Q (.panic c) a w) :
    ∀ (n : Nat) (L : Array Bool) (a : Act) (w : World),
      (∀ j oj, ops[j]? = some oj → j ≠ i → L.getD j true = false → (∀ e ∈ oj.after, Region.binds .any e = true → e.on ≠ i) → oi.apart ops oj = true) →
      i ∈ Region.ready .any ops L → YN P ops S oi v a → (isLoad oi.op = true → S w) → wpN P ops Q S n (L.setIfInBounds i true) (a.put oi.dst v) w → wpN P ops Q S (n + 1) L a w := by
  intro n
  induction n with
  | zero =>
    intro L a w _ hr hy hS H
    refine ⟨fun h => (by rw [h] at hr; cases hr), fun j hj => ?_⟩
    by_cases hji : j = i
    · subst hji; exact hy.here hi hS ⟨.inl ⟨_, hi, hqi, rfl⟩, H⟩
    · have := ready_mono hj hji
      rw [H.1] at this
      cases this
  | succ n ih =>
    intro L a w hfree hr hy hS H
    refine ⟨fun h => (by rw [h] at hr; cases hr), fun j hj => ?_⟩
    by_cases hji : j = i
    · subst hji; exact hy.here hi hS ⟨.inl ⟨_, hi, hqi, rfl⟩, H⟩
    · have h1 := H.2 j (ready_mono hj hji)
      obtain ⟨hjun, oj, hoj, hall⟩ := mem_ready.1 hj
      have hnot : ∀ e ∈ oj.after, Region.binds .any e = true → e.on ≠ i := fun e he hb heq => by
        have h1 := hall e he hb
        have h0 := (mem_ready.1 hr).1
        rw [heq] at h1
        rcases Nat.lt_or_ge i L.size with h' | h'
        · simp [h'] at h0 h1; rw [h0] at h1; cases h1
        · simp [Array.getElem?_eq_none h'] at h1
      have h2 := wpOp_swap hoj (hfree j oj hoj hji hjun hnot) (fun cs b => Region.noSelect_spec hsel i oi cs b hi) (fun cs b => Region.noSelect_spec hsel j oj cs b hoj) hQ hy h1
      have hfree' : ∀ k ok, ops[k]? = some ok → k ≠ i → (L.setIfInBounds j true).getD k true = false → (∀ e ∈ ok.after, Region.binds .any e = true → e.on ≠ i) → oi.apart ops ok = true := fun k ok hk hki hun hno => by
        refine hfree k ok hk hki ?_ hno
        by_cases hjk : j = k
        · subst hjk; exact hjun
        · rw [getD_set_ne true hjk] at hun; exact hun
      have hload : isLoad oi.op = true → needA ops.toList j = true := fun hld => needA_true hi hoj hld (Ne.symm hji) hnot
      refine wpOp_mono (fun a' w' h3 => ⟨h3.2.1, ih (L.setIfInBounds j true) a' w' hfree' (ready_mono hr (Ne.symm hji)) h3.1 (fun hld => ?_) ?_⟩) h2
      · rcases h3.2.1 with ⟨_, _, _, rfl⟩ | hk
        · exact hS hld
        · exact hk (hload hld)
      · rw [Array.setIfInBounds_comm _ _ hji]
        exact h3.2.2
theorem allL_mem {K : Nat → Prop} : ∀ {l : List Nat}, allL K l → ∀ i ∈ l, K i
  | [], _, i, hi => by cases hi
  | [j], h, i, hi => by simp at hi; subst hi; exact h
  | j :: k :: r, h, i, hi => by
    rcases List.mem_cons.1 hi with rfl | hi
    · exact h.1
    · exact allL_mem h.2 i hi

theorem pickQ_mem {ops : List Oper} {ex : List Nat} : ∀ {l : List Nat} {i : Nat}, pickQ P ops ex l = some i → i ∈ l ∧ (∃ o, ops[i]? = some o ∧ isQuiet P o.op = true) ∧ freeL ops ex i = true
  | [], i, h => by cases h
  | j :: r, i, h => by
    simp only [pickQ] at h
    split at h
    · rename_i o ho
      split at h
      · rename_i hc; cases h; simp at hc; exact ⟨List.mem_cons_self, ⟨o, ho, hc.1⟩, hc.2⟩
      · have := pickQ_mem h; exact ⟨List.mem_cons_of_mem _ this.1, this.2⟩
    · have := pickQ_mem h; exact ⟨List.mem_cons_of_mem _ this.1, this.2⟩

/-- is a load still to come? -/
def Pend (ops : Array Oper) (ex : List Nat) : Prop := ∃ i o, ops[i]? = some o ∧ isLoad o.op = true ∧ i ∉ ex
theorem isLoad_quiet {o : Op} (h : isLoad o = true) : isQuiet P o = true := by
  cases o <;> simp [isLoad] at h
  rfl
theorem draw_sound {n : Nat} {ops : Array Oper} {S : World → Prop} {Q : Exit → Act → World → Prop} {K : Env → World → Prop} (hs : Region.noSelect ops = true) (hQ : ∀ c a w, ¬ Q (.panic c) a w) :
    ∀ (fuel : Nat) (ex : List Nat) (ε : Env) (w : World) (a : Act) (L : Array Bool), drawP P n ops.toList S fuel ex ε w K → EnvOk ε a → a.tmps.size = n → Listed L ops.size ex → (Pend ops ex → S w) →
    (∀ ε' a' w', EnvOk ε' a' → a'.tmps.size = n → SameBut (wrOps ops) a a' → K ε' w' → Q .normal a' w') → wpN P ops Q S fuel L a w
  | 0, ex, ε, w, a, L, h, hε, hn, hl, hS, hq => by
    simp only [drawP] at h
    split at h
    · rename_i hr; exact ⟨by rw [ready_eq hl]; exact hr, hq ε a w hε hn (SameBut.refl _ _) h⟩
    · exact h.elim
  | fuel + 1, ex, ε, w, a, L, h, hε, hn, hl, hS, hq => by
    simp only [drawP] at h
    split at h
    · rename_i hr
      have hr' : Region.ready .any ops L = [] := by rw [ready_eq hl]; exact hr
      exact ⟨fun _ => hq ε a w hε hn (SameBut.refl _ _) h, by rw [hr']; simp⟩
    · rename_i r rs hr
      have hmemlt : ∀ i, i ∈ r :: rs → i < ops.size := by
        intro i hi
        rw [← hr] at hi
        unfold readyL at hi
        have := (List.mem_filter.1 hi).1
        simpa using this
      have hnotex : ∀ i, i ∈ r :: rs → i ∉ ex := by
        intro i hi
        rw [← hr] at hi
        unfold readyL at hi
        have := (List.mem_filter.1 hi).2
        simp only [Bool.and_eq_true, Bool.not_eq_true'] at this
        simpa using this.1
      have hafter : ∀ i o, i ∈ r :: rs → ops[i]? = some o → ∀ e ∈ o.after, Region.binds .any e = true → e.on ∈ ex := by
        intro i o hi ho e he hb
        rw [← hr] at hi
        unfold readyL at hi
        have := (List.mem_filter.1 hi).2
        rw [Array.getElem?_toList, ho] at this
        simp only [Bool.and_eq_true, List.all_eq_true] at this
        have := this.2 e (by simpa using he)
        rw [hb] at this
        simpa using this
      have step : ∀ i, Pend ops (i :: ex) → Pend ops ex := fun i ⟨j, o, ho, hl, hm⟩ => ⟨j, o, ho, hl, fun h => hm (List.mem_cons_of_mem _ h)⟩
      split at h
      · rename_i i hp
        obtain ⟨hmem, hquiet, hfree⟩ := pickQ_mem hp
        split at h
        · exact h.elim
        · rename_i o ho
          have ho' := ho
          rw [Array.getElem?_toList] at ho
          have hqo : isQuiet P o.op = true := by
            obtain ⟨o', ho2, hq2⟩ := hquiet
            rw [ho'] at ho2
            cases ho2
            exact hq2
          have hdst : ∀ t, o.dst = some t → t ∈ wrOps ops := fun t ht => mem_wrOps ho ht
          obtain ⟨run, ε₁, hrun, hε₁, h⟩ := guard_sound hε h
          have hready : i ∈ Region.ready .any ops L := by rw [ready_eq hl, hr]; exact hmem
          have hSi : isLoad o.op = true → S w := fun hld => hS ⟨i, o, ho, hld, hnotex i hmem⟩
          cases run with
          | true =>
            have hC : ∀ φ ψ : World → Prop, (∀ w, φ w → ψ w) → drawC S o.op φ → drawC S o.op ψ := by
              intro φ ψ hφ
              unfold drawC
              split
              · exact fun hh u hu => hφ u (hh u hu)
              · exact fun hh u => hφ u (hh u)
            have hT : ∀ φ : World → Prop, (∀ w, φ w) → drawC S o.op φ := by
              intro φ hφ
              unfold drawC
              split
              · exact fun u _ => hφ u
              · exact fun u => hφ u
            obtain ⟨v, hk, hw⟩ := quiet_sound hε₁ hC hT h
            obtain ⟨ε', hε', hk⟩ := putE_sound hε₁ hn hk
            refine wpN_first ho hqo hs hQ fuel L a w (Region.free_spec ho (free_eq hs hl hfree)) hready (.inl ⟨hrun, fun u hu => ?_⟩) hSi
              (draw_sound hs hQ fuel _ ε' w _ _ hk hε' (by rw [size_put]; exact hn) (hl.step (hmemlt i hmem)) (fun hp => hS (step i hp))
                (fun ε'' a'' w'' h1 h2 h3 h4 => hq ε'' a'' w'' h1 h2 ((SameBut.put a o.dst v hdst).trans h3) h4))
            unfold drawC at hw
            by_cases hld : isLoad o.op = true
            · rw [if_pos hld] at hw; exact hw u (hu hld)
            · rw [if_neg hld] at hw; exact hw u
          | false =>
            obtain ⟨ε', hε', hk⟩ := putE_sound hε₁ hn h
            exact wpN_first ho hqo hs hQ fuel L a w (Region.free_spec ho (free_eq hs hl hfree)) hready (.inr ⟨hrun, rfl⟩) hSi
              (draw_sound hs hQ fuel _ ε' w _ _ hk hε' (by rw [size_put]; exact hn) (hl.step (hmemlt i hmem)) (fun hp => hS (step i hp))
                (fun ε'' a'' w'' h1 h2 h3 h4 => hq ε'' a'' w'' h1 h2 ((SameBut.put a o.dst _ hdst).trans h3) h4))
      · refine ⟨fun h0 => (by rw [ready_eq hl, hr] at h0; cases h0), fun i hi => ?_⟩
        rw [ready_eq hl, hr] at hi
        have h := allL_mem h i hi
        split at h
        · exact h.elim
        · rename_i o ho
          rw [Array.getElem?_toList] at ho
          have hdst : ∀ t, o.dst = some t → t ∈ wrOps ops := fun t ht => mem_wrOps ho ht
          obtain ⟨run, ε₁, hrun, hε₁, h⟩ := guard_sound hε h
          have hpend : Pend ops (i :: ex) → needA ops.toList i = true := fun ⟨j, oj, hj, hld, hm⟩ =>
            needA_true hj ho hld (fun e => hm (by rw [e]; exact List.mem_cons_self)) fun e he hb heq => hm (List.mem_cons_of_mem _ (by rw [← heq]; exact hafter i o hi ho e he hb))
          have hcond : ∀ {X Y : Prop}, condS (needA ops.toList i) X Y → (needA ops.toList i = true → X) ∧ Y := by
            intro X Y hc
            cases hb : needA ops.toList i with
            | true => rw [hb] at hc; exact ⟨fun _ => hc.1, hc.2⟩
            | false => rw [hb] at hc; exact ⟨fun hh => (Bool.false_ne_true hh).elim, hc⟩
          unfold wpOp
          simp only [ho]
          cases run with
          | true =>
            simp only [hrun, if_true]
            refine .inl (op_sound hε₁ hn h fun v ε' w' hε' hk => ?_)
            obtain ⟨hk1, hk2⟩ := hcond hk
            exact ⟨.inr hk1, draw_sound hs hQ fuel _ ε' w' _ _ hk2 hε' (by rw [size_put]; exact hn) (hl.step (hmemlt i hi)) (fun hp => hk1 (hpend hp))
                (fun ε'' a'' w'' h1 h2 h3 h4 => hq ε'' a'' w'' h1 h2 ((SameBut.put a o.dst v hdst).trans h3) h4)⟩
          | false =>
            simp only [hrun, Bool.false_eq_true, if_false]
            obtain ⟨ε', hε', hk⟩ := putE_sound hε₁ hn h
            obtain ⟨hk1, hk2⟩ := hcond hk
            exact ⟨.inr hk1, draw_sound hs hQ fuel _ ε' w _ _ hk2 hε' (by rw [size_put]; exact hn) (hl.step (hmemlt i hi)) (fun hp => hk1 (hpend hp))
                (fun ε'' a'' w'' h1 h2 h3 h4 => hq ε'' a'' w'' h1 h2 ((SameBut.put a o.dst _ hdst).trans h3) h4)⟩

/-! ### Code -/
def Lift (n : Nat) (ws : List Nat) (a : Act) (Q : Exit → Env → World → Prop) : Exit → Act → World → Prop :=
  fun e a' w' => (∀ c, e ≠ .panic c) ∧ (e ≠ .outgrown) ∧ (∀ l, e ≠ .goto l) ∧ ∃ ε', EnvOk ε' a' ∧ a'.tmps.size = n ∧ SameBut ws a a' ∧ Q e ε' w'

theorem keep_get : ∀ {ts : List Nat} {ε : Env} {t : Nat} {v : Value}, (Env.keep ε ts).get t = some v → t ∈ ts ∧ ε.get t = some v
  | [], ε, t, v, h => by cases h
  | s :: ts, ε, t, v, h => by
    simp only [Env.keep] at h
    split at h
    · rename_i u hu
      simp only [Env.get] at h
      split at h
      · rename_i e; subst e; cases h; exact ⟨List.mem_cons_self, hu⟩
      · have := keep_get h; exact ⟨List.mem_cons_of_mem _ this.1, this.2⟩
    · have := keep_get h; exact ⟨List.mem_cons_of_mem _ this.1, this.2⟩

theorem keep_ok {ε : Env} {a a' : Act} {keep ws : List Nat} (hε : EnvOk ε a) (hs : SameBut ws a a') (hk : (keep.all fun t => !ws.contains t) = true) (hd : a'.defers = []) : EnvOk (Env.keep ε keep) a' := by
  refine ⟨hd, fun t v h => ?_⟩
  obtain ⟨hm, hv⟩ := keep_get h
  have := List.all_eq_true.1 hk t hm
  have hnot : t ∉ ws := by simpa using this
  rw [hs t hnot]
  exact hε.2 t v hv

theorem laid_ok : ∀ {ts : List Nat} {vs : List Value} {ε : Env} {a : Act}, EnvOk ε a → (∀ (j t : Nat) (v : Value), ts[j]? = some t → vs[j]? = some v → a.tmps[t]? = some v) → EnvOk (Env.laid ts vs ε) a
  | [], vs, ε, a, h, _ => by simpa [Env.laid] using h
  | t :: ts, [], ε, a, h, _ => by simpa [Env.laid] using h
  | t :: ts, v :: vs, ε, a, h, hj => by
    have ih := laid_ok (ts := ts) (vs := vs) h (fun j s u hs hu => hj (j + 1) s u (by simpa using hs) (by simpa using hu))
    refine ⟨ih.1, fun s u hu => ?_⟩
    simp only [Env.laid, Env.get] at hu
    split at hu
    · rename_i e; subst e; cases hu; exact hj 0 t v (by simp) (by simp)
    · exact ih.2 s u hu

theorem getL_at : ∀ {ts : List Nat} {ε : Env} {vs : List Value} {a : Act}, getL ε ts = some vs → EnvOk ε a → ∀ (j t : Nat) (v : Value), ts[j]? = some t → vs[j]? = some v → a.tmps[t]? = some v
  | [], ε, vs, a, h, hε, j, t, v, ht, hv => by simp at ht
  | s :: ts, ε, vs, a, h, hε, j, t, v, ht, hv => by
    simp only [getL] at h
    split at h
    · rename_i u hu
      split at h
      · rename_i us hus
        cases h
        cases j with
        | zero => simp at ht hv; subst ht; subst hv; exact hε.2 _ _ hu
        | succ j => simp at ht hv; exact getL_at hus hε j t v ht hv
      · cases h
    · cases h

theorem getL_laid : ∀ {ts : List Nat} {vs : List Value} {ε : Env}, okMark.nodupL ts = true → vs.length = ts.length → getL (Env.laid ts vs ε) ts = some vs := by
  have key : ∀ (ts : List Nat) (s : Nat) (u : Value) (ε : Env), s ∉ ts → getL ((s, u) :: ε) ts = getL ε ts := by
    intro ts
    induction ts with
    | nil => intro s u ε _; rfl
    | cons t ts ih =>
      intro s u ε h
      have h1 : s ≠ t := fun e => h (by simp [e])
      have h2 : s ∉ ts := fun e => h (by simp [e])
      simp only [getL, Env.get, if_neg h1, ih s u ε h2]
  intro ts
  induction ts with
  | nil => intro vs ε _ hl; cases vs <;> simp_all [getL]
  | cons t ts ih =>
    intro vs ε hd hl
    cases vs with
    | nil => simp at hl
    | cons v vs =>
      simp only [okMark.nodupL, Bool.and_eq_true, Bool.not_eq_true'] at hd
      have hnot : t ∉ ts := by simpa using hd.1
      simp only [Env.laid, getL, Env.get, if_true, key _ _ _ _ hnot, ih hd.2 (by simpa using hl)]

theorem appLeaves_len {R : Type} : ∀ {zs : List Value} {f : tyCps R zs} {vs : List Value} {g : R}, appCps zs f vs = some g → vs.length = zs.length
  | [], f, vs, g, h => by
    cases vs with
    | nil => rfl
    | cons v vs => simp only [appCps] at h; cases h
  | z :: zs, f, vs, g, h => by
    cases vs with
    | nil => simp only [appCps] at h; cases h
    | cons v vs =>
      simp only [appCps] at h
      cases hv : appCp z f v with
      | none => simp only [hv] at h; cases h
      | some r => simp only [hv] at h; simp [appLeaves_len h]

theorem getL_len : ∀ {ts : List Nat} {ε : Env} {vs : List Value}, getL ε ts = some vs → vs.length = ts.length
  | [], ε, vs, h => by cases h; rfl
  | t :: ts, ε, vs, h => by
    simp only [getL] at h
    split at h
    · split at h
      · rename_i us hus; cases h; simp [getL_len hus]
      · cases h
    · cases h

/-- the values that an activation holds in some slots -/
def actVals (a : Act) (ts : List Nat) : List Value := ts.map fun t => a.tmps.getD t undef
theorem actVals_eq : ∀ {ts : List Nat} {ε : Env} {vs : List Value} {a : Act}, getL ε ts = some vs → EnvOk ε a → actVals a ts = vs
  | [], ε, vs, a, h, hε => by cases h; rfl
  | t :: ts, ε, vs, a, h, hε => by
    simp only [getL] at h
    split at h
    · rename_i u hu
      split at h
      · rename_i us hus
        cases h
        have := hε.2 t u hu
        have ih := actVals_eq hus hε
        unfold actVals at ih ⊢
        simp [this, ← ih]
      · cases h
    · cases h

theorem holds_some {o : Option (World → Prop)} {w : World} (h : holdsAt o w) : ∃ g, o = some g ∧ g w := by
  cases o with
  | none => exact h.elim
  | some g => exact ⟨g, rfl, h⟩

theorem den_sound {n : Nat} {cuts loops : Marks} (hm : P.follows .mixedOrders = true) : ∀ (c : Code) (Q : Exit → Env → World → Prop) (ε : Env) (w : World) (a : Act), den P n cuts loops c Q ε w → EnvOk ε a → a.tmps.size = n →
    c.wp P (Lift n (wrs c) a Q) a w := by
  intro c
  induction c with
  | skip => intro Q ε w a h hε hn; exact wp_skip ⟨by simp, by simp, by simp, ε, hε, hn, SameBut.refl _ _, h⟩
  | region id ops d =>
    intro Q ε w a h hε hn
    simp only [den] at h
    cases d with
    | false =>
      refine wp_region ?_
      rw [← Array.length_toList]
      exact ops_sound _ ε w a h hε hn fun ε' a' w' h1 h2 h3 h4 => ⟨by simp, by simp, by simp, ε', h1, h2, h3, h4⟩
    | true =>
      simp only at h
      split at h
      · rename_i hns
        obtain ⟨S, hS, h⟩ := h _ ⟨rfl⟩
        refine wp_region_any hm (wpN_any (S := S) _ _ _ _ ?_)
        refine draw_sound (noSel_spec hns) (fun c a w h => h.1 c rfl) _ [] ε w.drew a _ h hε hn (Listed.start _) (fun _ => hS) fun ε' a' w' h1 h2 h3 h4 => ⟨by simp, by simp, by simp, ε', h1, h2, h3, h4⟩
      · exact h.elim
  | seq x y ihx ihy =>
    intro Q ε w a h hε hn
    simp only [den] at h
    split at h
    · refine wp_seq (wp_mono (ihx _ ε w a h hε hn) ?_)
      rintro e a' w' ⟨hp, ho, hg, ε', hε', hn', hsame, hq⟩
      cases e with
      | normal =>
        refine wp_mono (ihy _ ε' w' a' hq hε' hn') ?_
        rintro e a'' w'' ⟨hp, ho, hg, ε'', hε'', hn'', hsame', hq'⟩
        exact ⟨hp, ho, hg, ε'', hε'', hn'', (hsame.mono (by simp [wrs]; intro t ht; exact .inl ht)).trans (hsame'.mono (by simp [wrs]; intro t ht; exact .inr ht)), hq'⟩
      | panic c => exact (hp c rfl).elim
      | outgrown => exact (ho rfl).elim
      | goto l => exact (hg l rfl).elim
      | _ => exact ⟨by simp, by simp, by simp, ε', hε', hn', hsame.mono (by simp [wrs]; intro t ht; exact .inl ht), hq⟩
    · rename_i keep ts zs hmk
      split at h
      · rename_i hok
        unfold okMark at hok
        rw [Bool.and_eq_true] at hok
        obtain ⟨J, h, hall⟩ := h
        refine wp_seq (wp_mono (ihx _ ε w a h hε hn) ?_)
        rintro e a' w' ⟨hp, ho, hg, ε', hε', hn', hsame, hq⟩
        cases e with
        | normal =>
          simp only at hq
          split at hq
          · rename_i vs hvs
            obtain ⟨g, hg', _⟩ := holds_some hq
            have hden := allCps_app hall hg' w' hq
            have hεk : EnvOk (Env.laid ts vs (Env.keep ε keep)) a' := laid_ok (keep_ok hε hsame hok.1 hε'.1) (getL_at hvs hε')
            refine wp_mono (ihy _ _ w' a' hden hεk hn') ?_
            rintro e a'' w'' ⟨hp, ho, hg, ε'', hε'', hn'', hsame', hq'⟩
            exact ⟨hp, ho, hg, ε'', hε'', hn'', (hsame.mono (by simp [wrs]; intro t ht; exact .inl ht)).trans (hsame'.mono (by simp [wrs]; intro t ht; exact .inr ht)), hq'⟩
          · exact hq.elim
        | panic c => exact (hp c rfl).elim
        | outgrown => exact (ho rfl).elim
        | goto l => exact (hg l rfl).elim
        | _ => exact ⟨by simp, by simp, by simp, ε', hε', hn', hsame.mono (by simp [wrs]; intro t ht; exact .inl ht), hq⟩
      · exact h.elim
  | cond c x y ihx ihy =>
    intro Q ε w a h hε hn
    simp only [den] at h
    split at h
    · rename_i t ht
      have hc := hε.eval ht
      cases t with
      | true =>
        refine wp_cond_true hc (wp_mono (ihx _ ε w a h hε hn) ?_)
        rintro e a'' w'' ⟨hp, ho, hg, ε'', hε'', hn'', hsame', hq'⟩
        exact ⟨hp, ho, hg, ε'', hε'', hn'', hsame'.mono (by simp [wrs]; intro t ht; exact .inl ht), hq'⟩
      | false =>
        refine wp_cond_false hc (wp_mono (ihy _ ε w a h hε hn) ?_)
        rintro e a'' w'' ⟨hp, ho, hg, ε'', hε'', hn'', hsame', hq'⟩
        exact ⟨hp, ho, hg, ε'', hε'', hn'', hsame'.mono (by simp [wrs]; intro t ht; exact .inr ht), hq'⟩
    · exact h.elim
  | block id x ih =>
    intro Q ε w a h hε hn
    simp only [den] at h
    refine wp_block (wp_mono (ih _ ε w a h hε hn) ?_)
    rintro e a' w' ⟨hp, ho, hg, ε', hε', hn', hsame, hq⟩
    cases e with
    | exit id' =>
      simp only [Exit.inBlock]
      simp only at hq
      split
      · rename_i e; rw [if_pos e] at hq; exact ⟨by simp, by simp, by simp, ε', hε', hn', hsame, hq⟩
      · rename_i e; rw [if_neg e] at hq; exact ⟨by simp, by simp, by simp, ε', hε', hn', hsame, hq⟩
    | panic c => exact (hp c rfl).elim
    | outgrown => exact (ho rfl).elim
    | goto l => exact (hg l rfl).elim
    | _ => exact ⟨by simp, by simp, by simp, ε', hε', hn', hsame, hq⟩
  | loop x ih =>
    intro Q ε w a h hε hn
    simp only [den] at h
    split at h
    · exact h.elim
    · rename_i keep ts zs hmk
      split at h
      · rename_i hok
        unfold okMark at hok
        rw [Bool.and_eq_true] at hok
        split at h
        · exact h.elim
        · rename_i vs₀ hvs₀
          obtain ⟨J, μ, h0, hall⟩ := h
          refine wp_loop (fun a' w' => ∃ vs, holdsAt (appCps zs J vs) w' ∧ EnvOk (Env.laid ts vs (Env.keep ε keep)) a' ∧ vs.length = ts.length ∧ a'.tmps.size = n ∧ SameBut (wrs x) a a')
            (fun a' w' => natAt (appCps zs μ (actVals a' ts)) w') ?_ ?_
          · exact ⟨vs₀, h0, laid_ok (keep_ok hε (SameBut.refl _ _) hok.1 hε.1) (getL_at hvs₀ hε), getL_len hvs₀, hn, SameBut.refl _ _⟩
          · rintro a₁ w₁ ⟨vs, hJ, hε₁, hlen, hn₁, hsame₁⟩
            obtain ⟨g, hg', _⟩ := holds_some hJ
            have hden := allCps_app hall hg' w₁ hJ
            have hav : actVals a₁ ts = vs := actVals_eq (getL_laid hok.2 hlen) hε₁
            refine wp_mono (ih _ _ w₁ a₁ hden hε₁ hn₁) ?_
            rintro e a' w' ⟨hp, ho, hg, ε', hε', hn', hsame, hq⟩
            cases e with
            | normal =>
              simp only at hq
              split at hq
              · rename_i us hus
                have hau : actVals a' ts = us := actVals_eq hus hε'
                refine ⟨⟨us, hq.1, laid_ok (keep_ok hε (hsame₁.trans hsame) hok.1 hε'.1) (getL_at hus hε'), getL_len hus, hn', hsame₁.trans hsame⟩, ?_⟩
                show natAt (appCps zs μ (actVals a' ts)) w' < natAt (appCps zs μ (actVals a₁ ts)) w₁
                rw [hau, hav]; exact hq.2
              · exact hq.elim
            | panic c => exact (hp c rfl).elim
            | outgrown => exact (ho rfl).elim
            | goto l => exact (hg l rfl).elim
            | _ => exact ⟨by simp, by simp, by simp, ε', hε', hn', hsame₁.trans hsame, hq⟩
      · exact h.elim
  | exit id => intro Q ε w a h hε hn; exact wp_exit ⟨by simp, by simp, by simp, ε, hε, hn, SameBut.refl _ _, h⟩
  | ret => intro Q ε w a h hε hn; exact wp_ret ⟨by simp, by simp, by simp, ε, hε, hn, SameBut.refl _ _, h⟩
  | label l => intro Q ε w a h hε hn; exact wp_label ⟨by simp, by simp, by simp, ε, hε, hn, SameBut.refl _ _, h⟩
  | goto l => intro Q ε w a h; exact h.elim
  | scope x ih =>
    intro Q ε w a h hε hn
    simp only [den] at h
    refine wp_scope_straight (wp_mono (ih _ ε w a h hε hn) ?_)
    rintro e a' w' ⟨hp, ho, hg, ε', hε', hn', hsame, hq⟩
    cases e with
    | goto l => exact (hg l rfl).elim
    | panic c => exact (hp c rfl).elim
    | outgrown => exact (ho rfl).elim
    | _ => exact ⟨by simp, by simp, by simp, ε', hε', hn', hsame, hq⟩
  | rangeFunc f ps x y _ _ => intro Q ε w a h; exact h.elim
  | refuse why => intro Q ε w a h; exact h.elim

/-! ### A function -/
theorem run_results {ε : Env} {a : Act} {w : World} (hε : EnvOk ε a) : ∀ {rs : List ResultVar} {K : List Value → Prop}, resP P ε w rs K →
    ∃ vs, K vs ∧ (rs.mapM (fun | .tmp t => pure (a.tmps.getD t undef) | .cell p t => do loadVar t (← asAddr (a.tmps.getD p undef)) : ResultVar → Sem Value)).run P w = .ok vs w
  | [], K, h => ⟨[], h, rfl⟩
  | .tmp t :: r, K, h => by
    simp only [resP] at h
    split at h
    · rename_i v hv
      obtain ⟨vs, hk, hr⟩ := run_results hε h
      refine ⟨v :: vs, hk, ?_⟩
      have := hε.2 t v hv
      simp only [List.mapM_cons, Sem.run_bind, Sem.run_pure, Result.andThen_ok, hr]
      simp [this]
    · exact h.elim
  | .cell p ty :: r, K, h => by
    simp only [resP] at h
    split at h
    · rename_i b hb
      obtain ⟨v, h, hw⟩ := load_sound (P := P) (C_mono w) h
      obtain ⟨vs, hk, hr⟩ := run_results hε h
      refine ⟨v :: vs, hk, ?_⟩
      have := hε.2 p _ hb
      have e1 : a.tmps.getD p undef = .pointer (some b) := by simp [this]
      have hw' : (loadVar ty b).run P w = .ok v w := hw
      have ha : (asAddr (.pointer (some b))).run P w = .ok b w := rfl
      simp only [List.mapM_cons, Sem.run_bind, e1, ha, Sem.run_pure, Result.andThen_ok, hw', hr]
    · exact h.elim

theorem argEnv_get : ∀ {vs : List Value} {i t : Nat} {v : Value}, (argEnv i vs).get t = some v → i ≤ t ∧ vs[t - i]? = some v
  | [], i, t, v, h => by cases h
  | u :: vs, i, t, v, h => by
    simp only [argEnv, Env.get] at h
    split at h
    · rename_i e; subst e; cases h; simp
    · obtain ⟨h1, h2⟩ := argEnv_get h
      refine ⟨by omega, ?_⟩
      obtain ⟨k, hk⟩ : ∃ k, t - i = k + 1 := ⟨t - i - 1, by omega⟩
      rw [hk]
      simp
      rwa [show t - (i + 1) = k by omega] at h2

theorem results_sound {fn : Func} {ε : Env} {a : Act} {w : World} (hε : EnvOk ε a) {R : Value → World → Prop} (h : resP P ε w fn.results.toList fun vs => R (retOf vs) w) :
    ∃ v, (results fn a.tmps).run P w = .ok v w ∧ R v w := by
  obtain ⟨vs, hr, hm⟩ := run_results hε h
  have hmA : (fn.results.mapM (fun | .tmp t => pure (a.tmps.getD t undef) | .cell p t => do loadVar t (← asAddr (a.tmps.getD p undef)) : ResultVar → Sem Value)).run P w = .ok vs.toArray w := by
    rw [← Array.toArray_toList (xs := fn.results), List.mapM_toArray, Sem.run_map, hm]
    rfl
  refine ⟨retOf vs, ?_, hr⟩
  unfold results
  rw [Sem.run_bind]
  refine (congrArg (fun r => Result.andThen r _) hmA).trans ?_
  simp only [Result.andThen_ok, Sem.run_pure]
  congr 1
  cases vs with
  | nil => simp [retOf]
  | cons v vs =>
    cases vs with
    | nil => simp [retOf]
    | cons u us => simp [retOf]

/-- **The theorem of the reading.** -/
theorem calls_body {f : FuncId} {fn : Func} (hm : P.follows .mixedOrders = true) (hf : P.funcs[f]? = some fn) (cuts loops : Marks) {args : List Value} {w : World} {R : Value → World → Prop}
    (h : bodyOf P fn cuts loops args w R) : CallsR P f args.toArray w R := by
  unfold bodyOf at h
  split at h
  · rename_i c hb
    split at h
    · rename_i hl
      have hsz : (args.toArray ++ Array.replicate (fn.ntmps - args.toArray.size) undef).size = fn.ntmps := by simp; omega
      have hε : EnvOk (argEnv 0 args) { tmps := args.toArray ++ Array.replicate (fn.ntmps - args.toArray.size) undef, defers := [] } := by
        refine ⟨rfl, fun t v hv => ?_⟩
        obtain ⟨_, hv⟩ := argEnv_get hv
        have hlt : t < args.length := by
          have := (List.getElem?_eq_some_iff.1 hv).1
          omega
        simp only [Nat.sub_zero] at hv
        rw [Array.getElem?_append_left (by simpa using hlt)]
        simpa using hv
      refine calls_of_wp hf hb (wp_mono (den_sound hm c _ _ w _ h hε hsz) ?_)
      rintro e a' w' ⟨hp, ho, hg, ε', hε', hn', hsame, hq⟩
      cases e with
      | normal =>
        obtain ⟨v, hr, hR⟩ := results_sound hε' hq
        exact ⟨hε'.1, v, hr, v, rfl, hR⟩
      | ret =>
        obtain ⟨v, hr, hR⟩ := results_sound hε' hq
        exact ⟨hε'.1, v, hr, v, rfl, hR⟩
      | _ => exact hq.elim
    · exact h.elim
  · exact h.elim

end Go.Den
