/-
  A second law on regions that draw their order: operations that turn something (an append, a new block) stand among operations that only read; the readers may come before or behind them. Whatever order is drawn, it comes to the readers first, then the others in sequence.
  No program is in sight.
-/
import Derived.Test.YtfhjpnhchggljaaCalm
import Derived.WalkKit
namespace Go.Calm
section
variable {P : Program} {ops : Array Oper} {C : World → Prop} {Q : Exit → Act → World → Prop}

/-- Those that the flags name (true: a reader), and the others. -/
def heads : List Bool → List Oper → List Oper
  | true :: fs, o :: l => o :: heads fs l
  | false :: fs, _ :: l => heads fs l
  | _, _ => []
def tails : List Bool → List Oper → List Oper
  | true :: fs, _ :: l => tails fs l
  | false :: fs, o :: l => o :: tails fs l
  | _, _ => []

/-- The others, in sequence; each leaves a world of the class, and none panics. -/
def wpC (P : Program) (ops : Array Oper) (C : World → Prop) (Q : Exit → Act → World → Prop) : List Oper → Act → World → Prop
  | [], a, w => Q .normal a w
  | o :: rest, a, w => wpList P ops (fun e a' w' => e = .normal ∧ a'.defers = a.defers ∧ C w' ∧ wpC P ops C Q rest a' w') [o] a w
theorem wpC_nil {a : Act} {w : World} (h : Q .normal a w) : wpC P ops C Q [] a w := h
theorem wpC_step {a : Act} {w : World} {o : Oper} {rest : List Oper} (h : wpList P ops (fun e a' w' => e = .normal ∧ a'.defers = a.defers ∧ C w' ∧ wpC P ops C Q rest a' w') [o] a w) : wpC P ops C Q (o :: rest) a w := h

def waits (ops : Array Oper) (k j : Nat) : Bool := match ops[k]? with | some o => o.after.any fun e => Region.binds .any e && e.on == j | none => false
def flag (fs : List Bool) (i : Nat) : Bool := fs.getD i true
def dataB2 (ops : Array Oper) (fs : List Bool) : Bool := (List.range ops.size).all fun k => (List.range ops.size).all fun j => match ops[k]?, ops[j]? with
  | some ok, some oj => match oj.dst with
    | some t => (!(ok.looksAt ops).contains t || (decide (j < k) && waits ops k j && (flag fs j || !flag fs k)) || (waits ops j k && (flag fs k || !flag fs j))) && (decide (k = j) || ok.dst != some t)
    | none => true
  | _, _ => true
/-- Each of the others waits for the last of them that stands before it. -/
def chainB2 (ops : Array Oper) (fs : List Bool) : Bool := (List.range ops.size).all fun k => (List.range k).all fun j => flag fs k || flag fs j || ((List.range k).any fun i => decide (j < i) && !flag fs i) || waits ops k j
/-- What never enters a function. -/
def readOp : Op → Bool
  | .move _ | .assign _ | .pick .. | .load .. | .binOp .. | .unOp .. | .convert .. | .slice .. | .fieldAddr .. | .field .. | .indexAddr .. | .index .. | .extract .. | .build .. | .makeInterface .. | .nilCheck .. => true
  | .call { callee := .builtin .len, .. } | .call { callee := .builtin .cap, .. } => true
  | _ => false
def readB (ops : Array Oper) (fs : List Bool) : Bool := (List.range ops.size).all fun i => !flag fs i || match ops[i]? with | some o => readOp o.op | none => true
def okB2 (ops : Array Oper) (fs : List Bool) : Bool := Region.noSelect ops && backB ops && dataB2 ops fs && chainB2 ops fs && readB ops fs && decide (fs.length = ops.size)

theorem not_enter {α : Type} {s : Sem α} {g : α → Value} {w w' : World} {f : FuncId} {args : Array Value} : (s >>= fun a => pure (Next.value (g a)) : Sem Next).run P w ≠ .ok (.enter f args) w' := by
  intro h
  rw [Sem.run_bind] at h
  cases hs : s.run P w with
  | ok a w1 => rw [hs] at h; simp [Result.andThen] at h
  | halt x w1 => rw [hs] at h; simp [Result.andThen] at h
theorem bind_not_enter {α : Type} {s : Sem α} {g : α → Sem Next} {f : FuncId} {args : Array Value} (hg : ∀ a w w', (g a).run P w ≠ .ok (.enter f args) w') {w w' : World} : (s >>= g).run P w ≠ .ok (.enter f args) w' := by
  intro h
  rw [Sem.run_bind] at h
  cases hs : s.run P w with
  | ok a w1 => rw [hs] at h; exact hg _ _ _ h
  | halt x w1 => rw [hs] at h; simp [Result.andThen] at h
theorem read_not_enter {o : Oper} (h : readOp o.op = true) (ρ : Operand → Value) {w w' : World} {f : FuncId} {args : Array Value} : (execOp ρ o).run P w ≠ .ok (.enter f args) w' := by
  obtain ⟨dst, op, type, pos, after, guard⟩ := o
  cases op <;> simp only [readOp] at h <;> first | (cases h; done) | (simp only [execOp]; first | exact not_enter | (intro h; simp at h; done) | skip)
  case nilCheck x =>
    split
    · intro h; simp [runtimePanic] at h
    · intro h; simp [runtimePanic] at h
    · intro h; simp [runtimePanic] at h
    · split
      · intro h; simp [runtimePanic] at h
      · refine bind_not_enter fun a w w' => ?_
        refine bind_not_enter fun a w w' => ?_
        split
        · refine bind_not_enter fun a w w' => ?_
          intro h; simp at h
        · intro h; simp at h
      · intro h; simp at h
    · intro h; simp at h
  case call c =>
    obtain ⟨callee, xs, ats⟩ := c
    cases callee with
    | value f => simp at h
    | invoke r m => simp at h
    | builtin b =>
      have e := BigFrame.execOp_builtin ρ dst b xs ats type pos after guard
      simp only [execOp] at e
      rw [e]
      cases b <;> simp only [] at h <;> first | (cases h; done) | exact not_enter

/-! ### The list of the readers, by places -/
theorem heads_append (fs : List Bool) (l : List Oper) (i : Nat) (h : fs.length = l.length) : heads fs l = heads (fs.take i) (l.take i) ++ heads (fs.drop i) (l.drop i) := by
  induction l generalizing fs i with
  | nil =>
    have : fs = [] := List.eq_nil_of_length_eq_zero (by simpa using h)
    subst this; simp [heads]
  | cons o l ih =>
    cases fs with
    | nil => simp at h
    | cons f fs =>
      cases i with
      | zero => simp [heads]
      | succ i =>
        have := ih fs i (by simpa using h)
        cases f <;> simp [heads, this]
theorem heads_at {fs : List Bool} {l : List Oper} (h : fs.length = l.length) {i : Nat} {o : Oper} (hf : fs.getD i true = true) (ho : l[i]? = some o) :
    (heads fs l)[(heads (fs.take i) (l.take i)).length]? = some o := by
  rw [heads_append fs l i h, List.getElem?_append_right (Nat.le_refl _), Nat.sub_self]
  have hi : i < l.length := (List.getElem?_eq_some_iff.1 ho).1
  have hi' : i < fs.length := by omega
  have e1 : fs.drop i = true :: fs.drop (i + 1) := by
    rw [List.drop_eq_getElem_cons hi']; congr 1; simpa [hi'] using hf
  have e2 : l.drop i = o :: l.drop (i + 1) := by
    rw [List.drop_eq_getElem_cons hi]; congr 1; simpa [hi] using ho
  rw [e1, e2]; rfl
theorem heads_mem (fs : List Bool) (l : List Oper) (hl : fs.length = l.length) (p : Nat) (o : Oper) (h : (heads fs l)[p]? = some o) :
    ∃ j, j < l.length ∧ fs.getD j true = true ∧ l[j]? = some o ∧ (heads (fs.take j) (l.take j)).length = p := by
  induction l generalizing fs p with
  | nil =>
    have : fs = [] := List.eq_nil_of_length_eq_zero (by simpa using hl)
    subst this; simp [heads] at h
  | cons o' l ih =>
    cases fs with
    | nil => simp at hl
    | cons f fs =>
      cases f with
      | false =>
        obtain ⟨j, h0, h1, h2, h3⟩ := ih fs (by simpa using hl) p (by simpa [heads] using h)
        exact ⟨j + 1, by simpa using h0, by simpa using h1, by simpa using h2, by simpa [heads] using h3⟩
      | true =>
        cases p with
        | zero => exact ⟨0, by simp, rfl, by simpa [heads] using h, by simp [heads]⟩
        | succ p =>
          obtain ⟨j, h0, h1, h2, h3⟩ := ih fs (by simpa using hl) p (by simpa [heads] using h)
          exact ⟨j + 1, by simpa using h0, by simpa using h1, by simpa using h2, by simpa [heads] using h3⟩
theorem tails_at (fs : List Bool) (l : List Oper) (hl : fs.length = l.length) (m k : Nat) (o : Oper) (hm : m ≤ k) (hj : ∀ j, m ≤ j → j < k → fs.getD j true = true) (hf : fs.getD k true = false) (ho : l[k]? = some o) :
    tails (fs.drop m) (l.drop m) = o :: tails (fs.drop (k + 1)) (l.drop (k + 1)) := by
  induction l generalizing fs m k with
  | nil => simp at ho
  | cons o' l ih =>
    cases fs with
    | nil => simp at hl
    | cons f fs =>
      cases m with
      | zero =>
        cases k with
        | zero =>
          have : f = false := by simpa using hf
          subst this
          have : o' = o := by simpa using ho
          subst this
          rfl
        | succ k =>
          have : f = true := by simpa using hj 0 (Nat.le_refl _) (by omega)
          subst this
          have := ih fs (by simpa using hl) 0 k (Nat.zero_le _) (fun j _ hjk => by simpa using hj (j + 1) (by omega) (by omega)) (by simpa using hf) (by simpa using ho)
          simpa [tails] using this
      | succ m =>
        cases k with
        | zero => omega
        | succ k =>
          have := ih fs (by simpa using hl) m k (by omega) (fun j hmj hjk => by simpa using hj (j + 1) (by omega) (by omega)) (by simpa using hf) (by simpa using ho)
          simpa [tails] using this
theorem tails_none (fs : List Bool) (l : List Oper) (hl : fs.length = l.length) (m : Nat) (h : ∀ j, m ≤ j → j < l.length → fs.getD j true = true) : tails (fs.drop m) (l.drop m) = [] := by
  induction l generalizing fs m with
  | nil => simp [tails]
  | cons o l ih =>
    cases fs with
    | nil => simp at hl
    | cons f fs =>
      cases m with
      | zero =>
        have : f = true := by simpa using h 0 (Nat.le_refl _) (by simp)
        subst this
        have := ih fs (by simpa using hl) 0 (fun j _ hj => by simpa using h (j + 1) (by omega) (by simpa using hj))
        simpa [tails] using this
      | succ m =>
        have := ih fs (by simpa using hl) m (fun j hm hj => by simpa using h (j + 1) (by omega) (by simpa using hj))
        simpa [tails] using this

structure Facts2 (ops : Array Oper) (fs : List Bool) : Prop where
  sel : ∀ (j : Nat) (o : Oper) cs b, ops[j]? = some o → o.op ≠ .select cs b
  back : ∀ (i : Nat) (o : Oper), ops[i]? = some o → ∀ e ∈ o.after, Region.binds .any e = true → e.on < i
  data : ∀ (k j : Nat) (ok oj : Oper) (t : Tmp), ops[k]? = some ok → ops[j]? = some oj → oj.dst = some t → t ∈ ok.looksAt ops →
    (j < k ∧ (∃ e ∈ ok.after, Region.binds .any e = true ∧ e.on = j) ∧ (flag fs j = true ∨ flag fs k = false)) ∨ ((∃ e ∈ oj.after, Region.binds .any e = true ∧ e.on = k) ∧ (flag fs k = true ∨ flag fs j = false))
  uniq : ∀ (k j : Nat) (ok oj : Oper) (t : Tmp), ops[k]? = some ok → ops[j]? = some oj → oj.dst = some t → ok.dst = some t → k = j
  chain : ∀ (k j : Nat) (ok : Oper), ops[k]? = some ok → j < k → flag fs k = false → flag fs j = false → (∃ i, j < i ∧ i < k ∧ flag fs i = false) ∨ ∃ e ∈ ok.after, Region.binds .any e = true ∧ e.on = j
  read : ∀ (i : Nat) (o : Oper), ops[i]? = some o → flag fs i = true → readOp o.op = true
  len : fs.length = ops.size

theorem waits_spec {k j : Nat} {o : Oper} (ho : ops[k]? = some o) (h : waits ops k j = true) : ∃ e ∈ o.after, Region.binds .any e = true ∧ e.on = j := by
  unfold waits at h; simp only [ho] at h; exact any_spec h

theorem facts2_of {fs : List Bool} (h : okB2 ops fs = true) : Facts2 ops fs := by
  simp only [okB2, Bool.and_eq_true, decide_eq_true_eq] at h
  obtain ⟨⟨⟨⟨⟨h1, h2⟩, h3⟩, h4⟩, h5⟩, h6⟩ := h
  have lt : ∀ {i : Nat} {o : Oper}, ops[i]? = some o → i < ops.size := fun ho => (Array.getElem?_eq_some_iff.1 ho).1
  refine ⟨fun j o cs b ho => Region.noSelect_spec h1 j o cs b ho, fun i o ho e he hb => ?_, fun k j ok oj t hok hoj hd hm => ?_, fun k j ok oj t hok hoj hd hd' => ?_, fun k j ok hok hjk hfk hfj => ?_, fun i o ho hf => ?_, h6⟩
  · have := List.all_eq_true.1 h2 i (List.mem_range.2 (lt ho))
    simp only [ho] at this
    have := Array.all_eq_true_iff_forall_mem.1 this e he
    simpa [hb] using this
  · have := List.all_eq_true.1 (List.all_eq_true.1 h3 k (List.mem_range.2 (lt hok))) j (List.mem_range.2 (lt hoj))
    simp only [hok, hoj, hd, Bool.and_eq_true, Bool.or_eq_true, decide_eq_true_eq, Bool.not_eq_true'] at this
    rcases this.1 with (h' | h') | h'
    · simp at h'; exact absurd hm h'
    · exact .inl ⟨h'.1.1, waits_spec hok h'.1.2, h'.2⟩
    · exact .inr ⟨waits_spec hoj h'.1, h'.2⟩
  · have := List.all_eq_true.1 (List.all_eq_true.1 h3 k (List.mem_range.2 (lt hok))) j (List.mem_range.2 (lt hoj))
    simp only [hok, hoj, hd, Bool.and_eq_true, Bool.or_eq_true] at this
    rcases this.2 with h' | h'
    · simpa using h'
    · simp [hd'] at h'
  · have := List.all_eq_true.1 (List.all_eq_true.1 h4 k (List.mem_range.2 (lt hok))) j (List.mem_range.2 hjk)
    simp only [hfk, hfj, Bool.false_or, Bool.or_eq_true] at this
    rcases this with h' | h'
    · obtain ⟨i, hi, hi'⟩ := List.any_eq_true.1 h'
      simp only [Bool.and_eq_true, decide_eq_true_eq, Bool.not_eq_true'] at hi'
      exact .inl ⟨i, hi'.1, List.mem_range.1 hi, hi'.2⟩
    · exact .inr (waits_spec hok h')
  · have := List.all_eq_true.1 h5 i (List.mem_range.2 (lt ho))
    simpa [hf, ho] using this

/-- Where the walk stands. -/
structure Inv2 (ops : Array Oper) (fs : List Bool) (a S : Act) (V : Nat → Value) (listed : Array Bool) (m : Nat) (b av : Act) : Prop where
  size : listed.size = ops.size
  tb : b.tmps.size = a.tmps.size
  tv : av.tmps.size = a.tmps.size
  db : b.defers = a.defers
  dv : av.defers = a.defers
  head : ∀ i o t, flag fs i = true → ops[i]? = some o → o.dst = some t → listed.getD i false = true → b.tmps[t]? = if t < a.tmps.size then some (V i) else none
  tail : ∀ i o t, flag fs i = false → ops[i]? = some o → o.dst = some t → listed.getD i false = true → b.tmps[t]? = av.tmps[t]?
  rest : ∀ t, (∀ i o, ops[i]? = some o → listed.getD i false = true → o.dst ≠ some t) → b.tmps[t]? = a.tmps[t]?
  virt : ∀ t, (∀ i o, flag fs i = false → ops[i]? = some o → listed.getD i false = true → o.dst ≠ some t) → av.tmps[t]? = S.tmps[t]?
  low : ∀ j, j < m → j < ops.size → flag fs j = false → listed.getD j false = true
  high : ∀ j, m ≤ j → flag fs j = false → listed.getD j false = false
  dep : ∀ k o, ops[k]? = some o → listed.getD k false = true → ∀ e ∈ o.after, Region.binds .any e = true → listed.getD e.on false = true

theorem defers_ne {a : Act} {d : Deferred} {o : Oper} (h : (({ a with defers := d :: a.defers } : Act).put o.dst undef).defers = a.defers) : False := by
  rw [put_defers] at h
  have := congrArg List.length h
  simp at this

/-- One of the others, in a state that agrees with the one in which it was walked. -/
theorem wpOp_of_wpC {K : Act → World → Prop} {i : Nat} {o : Oper} {rest : List Oper} {b av : Act} {w : World} {Q0 : Exit → Act → World → Prop} (hi : ops[i]? = some o) (hs : ∀ cs x, o.op ≠ .select cs x)
    (hag : ∀ t ∈ o.looksAt ops, b.tmps[t]? = av.tmps[t]?) (h : wpC P ops C Q0 (o :: rest) av w)
    (hK : ∀ v w', C w' → wpC P ops C Q0 rest (av.put o.dst v) w' → K (b.put o.dst v) w') : wpOp P ops Q i K b w := by
  have he : execOp b.eval o = execOp av.eval o := execOp_congr o hs fun x hx => by
    cases x with
    | tmp t =>
      have : t ∈ o.looksAt ops := List.mem_append_left _ (List.mem_filterMap.2 ⟨.tmp t, by simpa using hx, rfl⟩)
      have := hag t this
      simp only [Act.eval, Array.getD_eq_getD_getElem?, this]
    | _ => rfl
  have hw : Region.wanted o (yielded ops b.tmps) = Region.wanted o (yielded ops av.tmps) := by
    unfold Region.wanted
    cases hgd : o.guard with
    | none => rfl
    | some gw =>
      obtain ⟨g, want⟩ := gw
      have : yielded ops b.tmps g = yielded ops av.tmps g := by
        unfold yielded
        cases ht : (ops[g]?).bind (·.dst) with
        | none => rfl
        | some t =>
          have : t ∈ o.looksAt ops := by simp [Oper.looksAt, hgd, ht]
          simp only [Option.bind_some, hag t this]
      simp only [this]
  unfold wpOp
  simp only [hi]
  unfold wpC wpList at h
  rw [hw]
  split
  · rename_i hwt
    rw [if_pos hwt] at h
    rcases h with h | ⟨_, x, y, hf, _⟩
    · refine .inl ?_
      unfold Oper.wp at *
      rw [he]
      generalize (execOp av.eval o).run P w = r at *
      cases r with
      | ok n w' =>
        cases n <;> simp only [Oper.upon, wpList] at h ⊢
        case value u => exact hK _ _ h.2.2.1 h.2.2.2
        case skip => exact hK _ _ h.2.2.1 h.2.2.2
        case defer d => exact (defers_ne h.2.1).elim
        case enter f args =>
          refine h.mono fun e w'' he => ?_
          cases e with
          | returned v => exact hK _ _ he.2.2.1 he.2.2.2
          | panicked c => exact absurd he.1 (by simp)
          | outgrown => obtain ⟨x, y, hf, _⟩ := he; simp at hf
        case row r as => exact h.mono fun v w'' he => hK _ _ he.2.2.1 he.2.2.2
      | halt x w' => cases x <;> simp only [Oper.upon] at h ⊢ <;> first | exact h.elim | exact absurd h.1 (by simp)
    · simp at hf
  · rename_i hwt
    rw [if_neg hwt] at h
    simp only [wpList] at h
    exact hK _ _ h.2.2.1 h.2.2.2

/-- A reader: its value, and the very world. -/
def Holds (P : Program) (ops : Array Oper) (C : World → Prop) (o : Oper) (a : Act) (v : Value) : Prop :=
  (Region.wanted o (yielded ops a.tmps) = true ∧ ∀ w, C w → (execOp a.eval o).run P w = .ok (.value v) w ∨ ((execOp a.eval o).run P w = .ok .skip w ∧ v = undef)) ∨ (Region.wanted o (yielded ops a.tmps) = false ∧ v = undef)
theorem Holds.congr {o : Oper} {a b : Act} {v : Value} (hs : ∀ cs x, o.op ≠ .select cs x) (h : ∀ t ∈ o.looksAt ops, b.tmps[t]? = a.tmps[t]?) (hg : Holds P ops C o a v) : Holds P ops C o b v := by
  have he : execOp b.eval o = execOp a.eval o := execOp_congr o hs fun x hx => by
    cases x with
    | tmp t =>
      have : t ∈ o.looksAt ops := List.mem_append_left _ (List.mem_filterMap.2 ⟨.tmp t, by simpa using hx, rfl⟩)
      have := h t this
      simp only [Act.eval, Array.getD_eq_getD_getElem?, this]
    | _ => rfl
  have hw : Region.wanted o (yielded ops b.tmps) = Region.wanted o (yielded ops a.tmps) := by
    unfold Region.wanted
    cases hgd : o.guard with
    | none => rfl
    | some gw =>
      obtain ⟨g, want⟩ := gw
      have : yielded ops b.tmps g = yielded ops a.tmps g := by
        unfold yielded
        cases ht : (ops[g]?).bind (·.dst) with
        | none => rfl
        | some t =>
          have : t ∈ o.looksAt ops := by simp [Oper.looksAt, hgd, ht]
          simp only [Option.bind_some, h t this]
      simp only [this]
  unfold Holds at *
  rw [he, hw]; exact hg
theorem Holds.wpOp {K : Act → World → Prop} {i : Nat} {o : Oper} {a : Act} {w : World} {v : Value} (hi : ops[i]? = some o) (hC : C w) (h : Holds P ops C o a v) (hK : K (a.put o.dst v) w) : wpOp P ops Q i K a w := by
  unfold Go.wpOp
  simp only [hi]
  rcases h with ⟨hw, hv⟩ | ⟨hw, rfl⟩
  · simp only [hw, if_true]
    refine .inl ?_
    unfold Oper.wp
    rcases hv w hC with h | ⟨h, rfl⟩ <;> rw [h] <;> exact hK
  · simp only [hw, Bool.false_eq_true, if_false]; exact hK

theorem quiet_vals {Q : Act → Prop} : ∀ (l : List Oper) (a : Act), (∀ o ∈ l, readOp o.op = true) → wpQuiet P ops C Q l a →
    ∃ vs : List Value, vs.length = l.length ∧ Q (puts a l vs) ∧ ∀ k o, l[k]? = some o → Holds P ops C o (puts a (l.take k) (vs.take k)) (vs.getD k undef)
  | [], a, _, h => ⟨[], rfl, h, fun k o hk => by simp at hk⟩
  | o :: l, a, hr, h => by
    have key : ∃ v, Holds P ops C o a v ∧ wpQuiet P ops C Q l (a.put o.dst v) := by
      unfold wpQuiet at h
      split at h
      · rename_i hw
        obtain ⟨v, h1, h2⟩ := h
        refine ⟨v, .inl ⟨hw, fun w hC => ?_⟩, h2⟩
        have h3 := h1 w hC
        have hne := fun f args w' => read_not_enter (P := P) (hr o (by simp)) a.eval (w := w) (w' := w') (f := f) (args := args)
        unfold Oper.quietAt at h3
        generalize (execOp a.eval o).run P w = r at *
        cases r with
        | ok n w' =>
          cases n <;> simp only [Oper.quietUpon] at h3
          case value u => obtain ⟨rfl, rfl⟩ := h3; exact .inl rfl
          case skip => obtain ⟨rfl, rfl⟩ := h3; exact .inr ⟨rfl, rfl⟩
          case enter f args => exact absurd rfl (hne f args w')
        | halt x w' => simp only [Oper.quietUpon] at h3
      · rename_i hw; exact ⟨undef, .inr ⟨by simpa using hw, rfl⟩, h⟩
    obtain ⟨v, h1, h2⟩ := key
    obtain ⟨vs, hl, hq, hv⟩ := quiet_vals l _ (fun o ho => hr o (by simp [ho])) h2
    refine ⟨v :: vs, by simp [hl], hq, fun k o' hk => ?_⟩
    cases k with
    | zero => simp only [List.getElem?_cons_zero, Option.some.injEq] at hk; subst hk; simpa [puts] using h1
    | succ k => simpa [puts] using hv k o' (by simpa using hk)

theorem shuffle {fs : List Bool} (F : Facts2 ops fs) {a : Act} {vs : List Value} (hvl : vs.length = (heads fs ops.toList).length)
    (hv : ∀ k o, (heads fs ops.toList)[k]? = some o → Holds P ops C o (puts a ((heads fs ops.toList).take k) (vs.take k)) (vs.getD k undef)) :
    ∀ (fuel : Nat) (listed : Array Bool) (m : Nat) (b av : Act) (w : World), C w →
      Inv2 ops fs a (puts a (heads fs ops.toList) vs) (fun i => vs.getD (heads (fs.take i) (ops.toList.take i)).length undef) listed m b av →
      wpC P ops C Q (tails (fs.drop m) (ops.toList.drop m)) av w → fuel = out listed → wpAny P .any ops Q fuel listed b w := by
  have hll : fs.length = ops.toList.length := by rw [F.len]; simp
  have lt : ∀ {i : Nat} {o : Oper}, ops[i]? = some o → i < ops.size := fun ho => (Array.getElem?_eq_some_iff.1 ho).1
  have tl : ∀ {i : Nat} {o : Oper}, ops[i]? = some o → ops.toList[i]? = some o := fun ho => by simpa using ho
  -- where a reader writes, the frame of all readers shows its value
  have atHead : ∀ i o t, flag fs i = true → ops[i]? = some o → o.dst = some t →
      (puts a (heads fs ops.toList) vs).tmps[t]? = if t < a.tmps.size then some (vs.getD (heads (fs.take i) (ops.toList.take i)).length undef) else none := by
    intro i o t hf ho hd
    refine puts_at _ vs a _ o (heads_at hll hf (tl ho)) hd hvl (fun p o' hp hd' => ?_)
    obtain ⟨j, hj, hjf, hjo, hjp⟩ := heads_mem fs ops.toList hll p o' hp
    have : j = i := F.uniq j i o' o t (by simpa using hjo) ho hd hd'
    subst this; exact hjp.symm
  have offHead : ∀ t, (∀ i o, flag fs i = true → ops[i]? = some o → o.dst ≠ some t) → (puts a (heads fs ops.toList) vs).tmps[t]? = a.tmps[t]? := by
    intro t ht
    refine puts_other _ vs a (fun p o hp => ?_)
    obtain ⟨j, hj, hjf, hjo, hjp⟩ := heads_mem fs ops.toList hll p o hp
    exact ht j o hjf (by simpa using hjo)
  intro fuel
  induction fuel with
  | zero =>
    intro listed m b av w hC inv hwp hf
    have hall : ∀ i, i < ops.size → listed.getD i false = true := by
      intro i hi
      cases hx : listed.getD i false with
      | true => rfl
      | false => have := out_pos (listed := listed) (i := i) (by rw [getD_of (by rw [inv.size]; omega) true false]; exact hx); omega
    have hb : b = av := by
      have ht : b.tmps = av.tmps := by
        apply Array.ext_getElem?
        intro t
        by_cases h1 : ∃ i o, flag fs i = false ∧ ops[i]? = some o ∧ o.dst = some t
        · obtain ⟨i, o, hfl, ho, hd⟩ := h1
          exact inv.tail i o t hfl ho hd (hall i (lt ho))
        · rw [inv.virt t (fun i o hfl ho _ hd => h1 ⟨i, o, hfl, ho, hd⟩)]
          by_cases h2 : ∃ i o, flag fs i = true ∧ ops[i]? = some o ∧ o.dst = some t
          · obtain ⟨i, o, hfl, ho, hd⟩ := h2
            rw [inv.head i o t hfl ho hd (hall i (lt ho)), atHead i o t hfl ho hd]
          · rw [inv.rest t (fun i o ho _ hd => by
              cases hx : flag fs i with
              | true => exact h2 ⟨i, o, hx, ho, hd⟩
              | false => exact h1 ⟨i, o, hx, ho, hd⟩), offHead t (fun i o hfl ho hd => h2 ⟨i, o, hfl, ho, hd⟩)]
      have hd : b.defers = av.defers := by rw [inv.db, inv.dv]
      cases b; cases av; simp_all
    have hnone := tails_none fs ops.toList hll m (fun j hm hj => by
      cases hx : fs.getD j true with
      | true => rfl
      | false => have := hall j (by simpa using hj); rw [inv.high j hm hx] at this; cases this)
    rw [hnone] at hwp
    refine ⟨?_, by rw [hb]; exact hwp⟩
    apply List.eq_nil_iff_forall_not_mem.2
    intro i hi
    obtain ⟨h0, o, ho, _⟩ := mem_ready.1 hi
    have := hall i (lt ho)
    rw [getD_of (by rw [inv.size]; exact lt ho) false true, h0] at this; cases this
  | succ fuel ih =>
    intro listed m b av w hC inv hwp hf
    -- something is ready: the least that stands out
    have hne : Region.ready .any ops listed ≠ [] := by
      have hex : ∃ i, i < ops.size ∧ listed.getD i true = false := by
        apply exists_out
        intro hall
        have : out listed = 0 := by
          unfold out
          rw [List.count_eq_zero]
          intro hm
          obtain ⟨i, hi, hx⟩ := List.getElem_of_mem hm
          have hi' : i < listed.size := by simpa using hi
          have := hall i (by rw [← inv.size]; exact hi')
          simp [hi'] at this
          simp [this] at hx
        omega
      obtain ⟨i0, hi0, hun0⟩ := hex
      obtain ⟨i, hi, hmin⟩ := least_out (i0 + 1) (fun i => listed.getD i true = false) ⟨i0, by omega, hun0⟩
      have hii : i < listed.size := by
        rcases Nat.lt_or_ge i listed.size with h' | h'
        · exact h'
        · simp [Array.getElem?_eq_none h'] at hi
      have : i ∈ Region.ready .any ops listed := by
        have his : i < ops.size := by rw [← inv.size]; exact hii
        refine mem_ready.2 ⟨hi, ops[i], by simp [his], fun e he hb => ?_⟩
        have hjl := hmin e.on (F.back i _ (by simp [his]) e he hb)
        have hlt := F.back i _ (by simp [his]) e he hb
        rw [getD_of (by omega) false true]
        cases hx : listed.getD e.on true with
        | true => rfl
        | false => exact absurd hx hjl
      intro he; rw [he] at this; cases this
    refine ⟨fun he => absurd he hne, fun i hi => ?_⟩
    obtain ⟨hun, o, ho, hready⟩ := mem_ready.1 hi
    have his : i < ops.size := lt ho
    have hunf : listed.getD i false = false := by rw [getD_of (by rw [inv.size]; exact his) false true]; exact hun
    -- the closure of what is listed
    have hdep' : ∀ k ok, ops[k]? = some ok → (listed.setIfInBounds i true).getD k false = true → ∀ e ∈ ok.after, Region.binds .any e = true → (listed.setIfInBounds i true).getD e.on false = true := by
      intro k ok hok hkl e he hb
      by_cases hik : i = k
      · subst hik
        obtain rfl : ok = o := Option.some.inj (hok.symm.trans ho)
        exact getD_set_true (hready e he hb)
      · rw [getD_set_ne false hik] at hkl
        exact getD_set_true (inv.dep k ok hok hkl e he hb)
    -- a slot that the operation looks at: whoever writes it and is listed stands ahead of it; whoever is not listed comes behind
    have looks : ∀ t ∈ o.looksAt ops, ∀ (j : Nat) (oj : Oper), ops[j]? = some oj → oj.dst = some t →
        (j < i ∧ listed.getD j false = true ∧ (flag fs j = true ∨ flag fs i = false)) ∨ (listed.getD j false = false ∧ i < j ∧ (flag fs i = true ∨ flag fs j = false)) := by
      intro t ht j oj hoj hd
      rcases F.data i j o oj t ho hoj hd ht with ⟨hji, ⟨e, he, hb, hon⟩, hfl⟩ | ⟨⟨e, he, hb, hon⟩, hfl⟩
      · exact .inl ⟨hji, by have := hready e he hb; rwa [hon] at this, hfl⟩
      · refine .inr ⟨?_, by have := F.back j oj hoj e he hb; omega, hfl⟩
        cases hx : listed.getD j false with
        | false => rfl
        | true => have := inv.dep j oj hoj hx e he hb; rw [hon, hunf] at this; cases this
    cases hfi : flag fs i with
    | true =>
      have hl0 := hv _ o (heads_at hll hfi (tl ho))
      have hl : Holds P ops C o b (vs.getD (heads (fs.take i) (ops.toList.take i)).length undef) := by
        refine Holds.congr (fun cs x => F.sel i o cs x ho) (fun t ht => ?_) hl0
        have htk : ∀ p (o' : Oper), ((heads fs ops.toList).take (heads (fs.take i) (ops.toList.take i)).length)[p]? = some o' → ∃ j, j < i ∧ flag fs j = true ∧ ops[j]? = some o' ∧ (heads (fs.take j) (ops.toList.take j)).length = p := by
          intro p o' hp
          rw [List.getElem?_take] at hp
          split at hp
          · rename_i hlt
            rw [heads_append fs ops.toList i hll, List.getElem?_append_left hlt] at hp
            obtain ⟨j, hj, hjf, hjo, hjp⟩ := heads_mem (fs.take i) (ops.toList.take i) (by simp [hll]) p o' hp
            have hji : j < i := by simp at hj; omega
            refine ⟨j, hji, ?_, ?_, ?_⟩
            · unfold flag
              have : (fs.take i).getD j true = fs.getD j true := by simp [hji]
              rw [← this]; exact hjf
            · simpa [List.getElem?_take, hji] using hjo
            · rw [List.take_take, List.take_take, Nat.min_eq_left (Nat.le_of_lt hji)] at hjp; exact hjp
          · cases hp
        by_cases hex : ∃ (j : Nat) (oj : Oper), ops[j]? = some oj ∧ oj.dst = some t
        · obtain ⟨j, oj, hoj, hd⟩ := hex
          rcases looks t ht j oj hoj hd with ⟨hji, hjl, hfl⟩ | ⟨hjl, hij, _⟩
          · have hfj : flag fs j = true := hfl.resolve_right (by rw [hfi]; simp)
            rw [inv.head j oj t hfj hoj hd hjl]
            have hpos : (heads (fs.take j) (ops.toList.take j)).length < (heads (fs.take i) (ops.toList.take i)).length := by
              have h1 := heads_at (fs := fs.take i) (l := ops.toList.take i) (by simp [hll]) (i := j) (o := oj) (by simp [hji]; simpa [flag] using hfj) (by simp [hji]; simpa using hoj)
              rw [List.take_take, List.take_take, Nat.min_eq_left (Nat.le_of_lt hji)] at h1
              exact (List.getElem?_eq_some_iff.1 h1).1
            rw [puts_at _ (vs.take (heads (fs.take i) (ops.toList.take i)).length) a (heads (fs.take j) (ops.toList.take j)).length oj (by rw [List.getElem?_take]; simp only [hpos, if_true]; exact heads_at hll hfj (tl hoj)) hd (by simp [hvl]) (fun p o' hp hd' => by
              obtain ⟨j', hj', hjf', hjo', hjp'⟩ := htk p o' hp
              have : j' = j := F.uniq j' j o' oj t hjo' hoj hd hd'
              subst this; exact hjp'.symm)]
            simp [hpos]
          · rw [inv.rest t (fun k ok hok hkl hd' => by
              have : k = j := F.uniq k j ok oj t hok hoj hd hd'
              subst this; rw [hjl] at hkl; cases hkl), puts_other _ _ a (fun p o' hp hd' => by
              obtain ⟨j', hj', hjf', hjo', hjp'⟩ := htk p o' hp
              have : j' = j := F.uniq j' j o' oj t hjo' hoj hd hd'
              omega)]
        · rw [inv.rest t (fun k ok hok _ hd' => hex ⟨k, ok, hok, hd'⟩), puts_other _ _ a (fun p o' hp hd' => by
            obtain ⟨j', hj', hjf', hjo', hjp'⟩ := htk p o' hp
            exact hex ⟨j', o', hjo', hd'⟩)]
      refine Holds.wpOp ho hC hl (ih _ m _ av w hC ?_ hwp (by have := out_set hun; omega))
      refine ⟨by simp [inv.size], by rw [put_size, inv.tb], inv.tv, by rw [put_defers, inv.db], inv.dv, fun j oj t hfj hoj hd hjl => ?_, fun j oj t hfj hoj hd hjl => ?_, fun t ht => ?_, fun t ht => ?_, fun j hj hjs hfj => ?_, fun j hj hfj => ?_, hdep'⟩
      · by_cases hij : i = j
        · subst hij
          obtain rfl : oj = o := Option.some.inj (hoj.symm.trans ho)
          rw [hd, put_same, inv.tb]
        · rw [getD_set_ne false hij] at hjl
          rw [put_other b _ (fun e => hij (F.uniq i j o oj t ho hoj hd e))]
          exact inv.head j oj t hfj hoj hd hjl
      · have hij : i ≠ j := fun e => by subst e; rw [hfi] at hfj; cases hfj
        rw [getD_set_ne false hij] at hjl
        rw [put_other b _ (fun e => hij (F.uniq i j o oj t ho hoj hd e))]
        exact inv.tail j oj t hfj hoj hd hjl
      · rw [put_other b _ (ht i o ho (by simp [inv.size, his]))]
        exact inv.rest t (fun k ok hok hkl => ht k ok hok (getD_set_true hkl))
      · exact inv.virt t (fun k ok hfk hok hkl => ht k ok hfk hok (getD_set_true hkl))
      · exact getD_set_true (inv.low j hj hjs hfj)
      · have hij : i ≠ j := fun e => by subst e; rw [hfi] at hfj; cases hfj
        rw [getD_set_ne false hij]; exact inv.high j hj hfj
    | false =>
      -- one of the others: the next of them
      have hmi : m ≤ i := by
        apply Classical.byContradiction
        intro hc
        have := inv.low i (by omega) his hfi
        rw [hunf] at this; cases this
      have none_between : ∀ d j, i - j = d → m ≤ j → j < i → flag fs j = false → False := by
        intro d
        induction d using Nat.strongRecOn with
        | _ d ihd =>
          intro j hd hmj hj hfj
          rcases F.chain i j o ho hj hfi hfj with ⟨k, hjk, hki, hfk⟩ | ⟨e, he, hb, hon⟩
          · exact ihd (i - k) (by omega) k rfl (by omega) hki hfk
          · have := hready e he hb
            rw [hon, inv.high j hmj hfj] at this; cases this
      have hbetween : ∀ j, m ≤ j → j < i → flag fs j = true := fun j h1 h2 => by
        cases hx : flag fs j with
        | true => rfl
        | false => exact (none_between _ j rfl h1 h2 hx).elim
      have htl := tails_at fs ops.toList hll m i o hmi hbetween hfi (tl ho)
      rw [htl] at hwp
      refine wpOp_of_wpC ho (fun cs x => F.sel i o cs x ho) (fun t ht => ?_) hwp (fun v w' hC' hwp' => ih _ (i + 1) _ (av.put o.dst v) w' hC' ?_ hwp' (by have := out_set hun; omega))
      · by_cases hex : ∃ (j : Nat) (oj : Oper), ops[j]? = some oj ∧ oj.dst = some t
        · obtain ⟨j, oj, hoj, hd⟩ := hex
          rcases looks t ht j oj hoj hd with ⟨hji, hjl, _⟩ | ⟨hjl, hij, hfl⟩
          · cases hfj : flag fs j with
            | false => exact inv.tail j oj t hfj hoj hd hjl
            | true =>
              rw [inv.head j oj t hfj hoj hd hjl, inv.virt t (fun k ok hfk hok _ hd' => by
                have : k = j := F.uniq k j ok oj t hok hoj hd hd'
                subst this; rw [hfj] at hfk; cases hfk), atHead j oj t hfj hoj hd]
          · have hfj : flag fs j = false := hfl.resolve_left (by rw [hfi]; simp)
            have hno : ∀ (k : Nat) (ok : Oper), ops[k]? = some ok → listed.getD k false = true → ok.dst ≠ some t := fun k ok hok hkl hd' => by
              have : k = j := F.uniq k j ok oj t hok hoj hd hd'
              subst this; rw [hjl] at hkl; cases hkl
            rw [inv.rest t hno, inv.virt t (fun k ok _ hok hkl => hno k ok hok hkl), offHead t (fun k ok hfk hok hd' => by
              have : k = j := F.uniq k j ok oj t hok hoj hd hd'
              subst this; rw [hfj] at hfk; cases hfk)]
        · rw [inv.rest t (fun k ok hok _ hd' => hex ⟨k, ok, hok, hd'⟩), inv.virt t (fun k ok _ hok _ hd' => hex ⟨k, ok, hok, hd'⟩), offHead t (fun k ok _ hok hd' => hex ⟨k, ok, hok, hd'⟩)]
      · refine ⟨by simp [inv.size], by rw [put_size, inv.tb], by rw [put_size, inv.tv], by rw [put_defers, inv.db], by rw [put_defers, inv.dv], fun j oj t hfj hoj hd hjl => ?_, fun j oj t hfj hoj hd hjl => ?_, fun t ht => ?_, fun t ht => ?_, fun j hj hjs hfj => ?_, fun j hj hfj => ?_, hdep'⟩
        · have hij : i ≠ j := fun e => by subst e; rw [hfi] at hfj; cases hfj
          rw [getD_set_ne false hij] at hjl
          rw [put_other b _ (fun e => hij (F.uniq i j o oj t ho hoj hd e))]
          exact inv.head j oj t hfj hoj hd hjl
        · by_cases hij : i = j
          · subst hij
            obtain rfl : oj = o := Option.some.inj (hoj.symm.trans ho)
            rw [hd, put_same, put_same, inv.tb, inv.tv]
          · rw [getD_set_ne false hij] at hjl
            rw [put_other b _ (fun e => hij (F.uniq i j o oj t ho hoj hd e)), put_other av _ (fun e => hij (F.uniq i j o oj t ho hoj hd e))]
            exact inv.tail j oj t hfj hoj hd hjl
        · rw [put_other b _ (ht i o ho (by simp [inv.size, his]))]
          exact inv.rest t (fun k ok hok hkl => ht k ok hok (getD_set_true hkl))
        · rw [put_other av _ (ht i o hfi ho (by simp [inv.size, his]))]
          exact inv.virt t (fun k ok hfk hok hkl => ht k ok hfk hok (getD_set_true hkl))
        · by_cases hij : i = j
          · subst hij; simp [inv.size, his]
          · rw [getD_set_ne false hij]
            by_cases hjm : j < m
            · exact inv.low j hjm hjs hfj
            · have := hbetween j (by omega) (by omega)
              rw [hfj] at this; cases this
        · rw [getD_set_ne false (by omega)]; exact inv.high j (by omega) hfj

/-- WHATEVER ORDER IS DRAWN, it comes to the readers first, then the others in sequence. The readers read the same in every world of the class; the others stay within it. -/
theorem region_s {id : Nat} {a : Act} {w : World} {l : List Oper} (fs : List Bool) (C : World → Prop) (hm : P.follows .mixedOrders = true) (hB : okB2 l.toArray fs = true) (hC : C w.drew)
    (h : wpQuiet P l.toArray C (fun a' => wpC P l.toArray C Q (tails fs l) a' w.drew) (heads fs l) a) : (Code.region id l.toArray true).wp P Q a w := by
  have F := facts2_of hB
  have hread : ∀ o ∈ heads fs l, readOp o.op = true := by
    intro o ho
    obtain ⟨p, hp, hpo⟩ := List.getElem_of_mem ho
    obtain ⟨j, hj, hjf, hjo, _⟩ := heads_mem fs l (by simpa using F.len) p o (by rw [List.getElem?_eq_getElem hp, hpo])
    exact F.read j o (by simpa using hjo) hjf
  obtain ⟨vs, hvl, hq, hv⟩ := quiet_vals _ _ hread h
  refine wp_region_any hm ?_
  exact shuffle (C := C) (Q := Q) F (a := a) (vs := vs) hvl (fun k o hk => hv k o hk) _ _ 0 a (puts a (heads fs l) vs) w.drew hC
    ⟨by simp, rfl, puts_size _ _ _, rfl, puts_defers _ _ _, fun i o t _ _ _ hl => by
      exfalso; rcases Nat.lt_or_ge i l.length with h' | h' <;> simp [h'] at hl, fun i o t _ _ _ hl => by
      exfalso; rcases Nat.lt_or_ge i l.length with h' | h' <;> simp [h'] at hl, fun t _ => rfl, fun t _ => rfl, fun j hj => by omega, fun t _ _ => by rcases Nat.lt_or_ge t l.length with h' | h' <;> simp [h'],
      fun k o _ hl => by exfalso; rcases Nat.lt_or_ge k l.length with h' | h' <;> simp [h'] at hl⟩ (by simpa using hq) (by simp [out])
theorem region_sk {id : Nat} {a : Act} {w : World} {l : List Oper} (fs : List Bool) (hm : P.follows .mixedOrders = true) (hB : okB2 l.toArray fs = true)
    (h : wpQuiet P l.toArray (fun w' => ∃ k : Kept w, w' = k.world) (fun a' => wpC P l.toArray (fun w' => ∃ k : Kept w, w' = k.world) Q (tails fs l) a' w.drew) (heads fs l) a) : (Code.region id l.toArray true).wp P Q a w :=
  region_s fs _ hm hB ⟨⟨_, (RowKit.Below.refl _ _).drew⟩, rfl⟩ h
end

open RowKit in
/-- A world in which nothing has turned below block B. -/
structure KeptB (B : Nat) (w : World) where
  world : World
  below : Below B w world
open RowKit in
instance (B : Nat) (w : World) : Nonempty (KeptB B w) := ⟨⟨w, Below.refl _ _⟩⟩
section
variable {P : Program} {Q : Exit → Act → World → Prop}
theorem region_sb {id : Nat} {a : Act} {w : World} {l : List Oper} (B : Nat) (fs : List Bool) (hm : P.follows .mixedOrders = true) (hB : okB2 l.toArray fs = true)
    (h : wpQuiet P l.toArray (fun w' => ∃ k : KeptB B w, w' = k.world) (fun a' => wpC P l.toArray (fun w' => ∃ k : KeptB B w, w' = k.world) Q (tails fs l) a' w.drew) (heads fs l) a) : (Code.region id l.toArray true).wp P Q a w :=
  region_s fs _ hm hB ⟨⟨_, (RowKit.Below.refl _ _).drew⟩, rfl⟩ h
end
end Go.Calm
