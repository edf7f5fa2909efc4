/-
  A law on regions that draw their order: whatever order is drawn, the frame behind the region is the one of the text's order, and the world is one of a class; what stands at the region's end in sequence is walked behind it.
  No program is in sight.
-/
import Derived.Deep.Quiet
import Derived.Below
namespace Go.Calm
section
variable {P : Program} {ops : Array Oper} {C : World → Prop}

/-- What an operation may come to: the value v, and a world of the class. -/
def upon (P : Program) (C : World → Prop) (v : Value) : Result Next → Prop
  | .ok (.value u) w' => u = v ∧ C w'
  | .ok .skip w' => v = undef ∧ C w'
  | .ok (.enter f args) w' => Calls P f args w' (fun e w'' => e = .returned v ∧ C w'')
  | _ => False

def gives (P : Program) (C : World → Prop) (o : Oper) (a : Act) (v : Value) : Prop := ∀ w, C w → upon P C v ((execOp a.eval o).run P w)

/-- The walk in the text's order. -/
def walk (P : Program) (ops : Array Oper) (C : World → Prop) (Q : Act → Prop) : List Oper → Act → Prop
  | [], a => Q a
  | o :: rest, a => if Region.wanted o (yielded ops a.tmps) then ∃ v, gives P C o a v ∧ walk P ops C Q rest (a.put o.dst v) else walk P ops C Q rest (a.put o.dst undef)

theorem walk_nil {Q : Act → Prop} {a : Act} (h : Q a) : walk P ops C Q [] a := h
theorem walk_step {Q : Act → Prop} {a : Act} {o : Oper} {rest : List Oper} (hg : o.guard = none) (v : Value) (h1 : gives P C o a v) (h2 : walk P ops C Q rest (a.put o.dst v)) : walk P ops C Q (o :: rest) a := by
  unfold walk; rw [if_pos (by simp [Region.wanted, hg])]; exact ⟨v, h1, h2⟩
theorem walk_yes {Q : Act → Prop} {a : Act} {o : Oper} {rest : List Oper} (hw : Region.wanted o (yielded ops a.tmps) = true) (v : Value) (h1 : gives P C o a v) (h2 : walk P ops C Q rest (a.put o.dst v)) : walk P ops C Q (o :: rest) a := by
  unfold walk; rw [if_pos hw]; exact ⟨v, h1, h2⟩
theorem walk_no {Q : Act → Prop} {a : Act} {o : Oper} {rest : List Oper} (hw : Region.wanted o (yielded ops a.tmps) = false) (h2 : walk P ops C Q rest (a.put o.dst undef)) : walk P ops C Q (o :: rest) a := by
  unfold walk; rw [if_neg (by simp [hw])]; exact h2

/-- In state a the operation leaves v. -/
def Leaves (P : Program) (ops : Array Oper) (C : World → Prop) (o : Oper) (a : Act) (v : Value) : Prop :=
  (Region.wanted o (yielded ops a.tmps) = true ∧ gives P C o a v) ∨ (Region.wanted o (yielded ops a.tmps) = false ∧ v = undef)

def puts : Act → List Oper → List Value → Act
  | a, o :: l, v :: vs => puts (a.put o.dst v) l vs
  | a, _, _ => a

theorem walk_vals {Q : Act → Prop} : ∀ (l : List Oper) (a : Act), walk P ops C Q l a →
    ∃ vs : List Value, vs.length = l.length ∧ Q (puts a l vs) ∧ ∀ k o, l[k]? = some o → Leaves P ops C o (puts a (l.take k) (vs.take k)) (vs.getD k undef)
  | [], a, h => ⟨[], rfl, h, fun k o hk => by simp at hk⟩
  | o :: l, a, h => by
    have key : ∃ v, Leaves P ops C o a v ∧ walk P ops C Q l (a.put o.dst v) := by
      unfold walk at h
      split at h
      · rename_i hw; obtain ⟨v, h1, h2⟩ := h; exact ⟨v, .inl ⟨hw, h1⟩, h2⟩
      · rename_i hw; exact ⟨undef, .inr ⟨by simpa using hw, rfl⟩, h⟩
    obtain ⟨v, h1, h2⟩ := key
    obtain ⟨vs, hl, hq, hv⟩ := walk_vals l _ h2
    refine ⟨v :: vs, by simp [hl], hq, fun k o' hk => ?_⟩
    cases k with
    | zero => simp only [List.getElem?_cons_zero, Option.some.injEq] at hk; subst hk; simpa [puts] using h1
    | succ k => simpa [puts] using hv k o' (by simpa using hk)

theorem put_size (a : Act) (d : Option Tmp) (v : Value) : (a.put d v).tmps.size = a.tmps.size := by cases d <;> simp [Act.put]
theorem put_defers (a : Act) (d : Option Tmp) (v : Value) : (a.put d v).defers = a.defers := by cases d <;> rfl
theorem put_same (a : Act) (t : Tmp) (v : Value) : (a.put (some t) v).tmps[t]? = if t < a.tmps.size then some v else none := by
  simp only [Act.put, Array.getElem?_setIfInBounds]; simp
theorem put_other (a : Act) {d : Option Tmp} {t : Tmp} (v : Value) (h : d ≠ some t) : (a.put d v).tmps[t]? = a.tmps[t]? := by
  cases d with
  | none => rfl
  | some d => simp only [Act.put]; exact Array.getElem?_setIfInBounds_ne (by intro e; exact h (by rw [e]))
theorem puts_size : ∀ (l : List Oper) (vs : List Value) (a : Act), (puts a l vs).tmps.size = a.tmps.size
  | [], _, _ => rfl
  | _ :: _, [], _ => rfl
  | o :: l, v :: vs, a => by unfold puts; rw [puts_size l vs, put_size]
theorem puts_defers : ∀ (l : List Oper) (vs : List Value) (a : Act), (puts a l vs).defers = a.defers
  | [], _, _ => rfl
  | _ :: _, [], _ => rfl
  | o :: l, v :: vs, a => by unfold puts; rw [puts_defers l vs, put_defers]
theorem puts_other {t : Tmp} : ∀ (l : List Oper) (vs : List Value) (a : Act), (∀ (k : Nat) (o : Oper), l[k]? = some o → o.dst ≠ some t) → (puts a l vs).tmps[t]? = a.tmps[t]?
  | [], _, _, _ => rfl
  | _ :: _, [], _, _ => rfl
  | o :: l, v :: vs, a, h => by
    unfold puts
    rw [puts_other l vs _ (fun k o' hk => h (k + 1) o' (by simpa using hk)), put_other a v (h 0 o rfl)]
theorem puts_at {t : Tmp} : ∀ (l : List Oper) (vs : List Value) (a : Act) (k : Nat) (o : Oper), l[k]? = some o → o.dst = some t → vs.length = l.length →
    (∀ j o', l[j]? = some o' → o'.dst = some t → j = k) → (puts a l vs).tmps[t]? = if t < a.tmps.size then some (vs.getD k undef) else none
  | [], _, _, k, o, hk, _, _, _ => by simp at hk
  | _ :: _, [], _, _, _, _, _, hl, _ => by simp at hl
  | o' :: l, v :: vs, a, k, o, hk, hd, hl, hu => by
    unfold puts
    cases k with
    | zero =>
      simp only [List.getElem?_cons_zero, Option.some.injEq] at hk; subst hk
      rw [puts_other l vs _ (fun j o'' hj e => by have := hu (j + 1) o'' (by simpa using hj) e; omega), hd, put_same]
      simp
    | succ k =>
      rw [puts_at l vs _ k o (by simpa using hk) hd (by simpa using hl) (fun j o'' hj e => by have := hu (j + 1) o'' (by simpa using hj) e; omega), put_size]
      simp

/-! ### What is asked of the region's own text: reckoned -/
/-- Each binding edge leads back. -/
def backB (ops : Array Oper) : Bool := (List.range ops.size).all fun i => match ops[i]? with | some o => o.after.all fun e => !Region.binds .any e || decide (e.on < i) | none => true
/-- Each slot that a head operation looks at, and that a head operation writes, is written by one that it waits for; and no slot is written twice. -/
def dataB (ops : Array Oper) (n : Nat) : Bool := (List.range n).all fun k => (List.range n).all fun j => match ops[k]?, ops[j]? with
  | some ok, some oj => match oj.dst with
    | some t => (!(ok.looksAt ops).contains t || (ok.after.any fun e => Region.binds .any e && e.on == j)) && (decide (k = j) || ok.dst != some t)
    | none => true
  | _, _ => true
/-- The tail waits for the whole head (each head operation is waited for by a later one, up to the first of the tail), and each of the tail for the one before it. -/
def tailB (ops : Array Oper) (n : Nat) : Bool := decide (n ≤ ops.size) && (decide (n = ops.size) || ((List.range n).all fun i => (List.range (n + 1)).any fun j => decide (i < j) && match ops[j]? with | some oj => oj.after.any fun e => Region.binds .any e && e.on == i | none => false)) &&
  (List.range ops.size).all fun t => decide (t ≤ n) || match ops[t]? with | some o => o.after.any fun e => Region.binds .any e && e.on == t - 1 | none => false
def okB (ops : Array Oper) (n : Nat) : Bool := Region.noSelect ops && backB ops && dataB ops n && tailB ops n

/-- How many stand out. -/
def out (listed : Array Bool) : Nat := listed.toList.count false
theorem count_set : ∀ (l : List Bool) (i : Nat), l[i]? = some false → (l.set i true).count false + 1 = l.count false
  | [], i, h => by simp at h
  | b :: l, 0, h => by simp only [List.getElem?_cons_zero, Option.some.injEq] at h; subst h; simp
  | b :: l, i + 1, h => by
    have ih := count_set l i (by simpa using h)
    simp only [List.set_cons_succ, List.count_cons]
    omega
theorem out_set {listed : Array Bool} {i : Nat} (h : listed.getD i true = false) : out (listed.setIfInBounds i true) + 1 = out listed := by
  have hi : i < listed.size := by
    rcases Nat.lt_or_ge i listed.size with h' | h'
    · exact h'
    · simp [Array.getElem?_eq_none h'] at h
  have : listed.toList[i]? = some false := by simp [hi] at h ⊢; exact h
  have := count_set _ _ this
  simpa [out, Array.toList_setIfInBounds] using this
theorem getD_of {listed : Array Bool} {i : Nat} (hi : i < listed.size) (x y : Bool) : listed.getD i x = listed.getD i y := by simp [hi]
theorem out_pos {listed : Array Bool} {i : Nat} (h : listed.getD i true = false) : 0 < out listed := by have := out_set h; omega

structure Facts (ops : Array Oper) (n : Nat) : Prop where
  sel : ∀ (j : Nat) (o : Oper) cs b, ops[j]? = some o → o.op ≠ .select cs b
  back : ∀ i o, ops[i]? = some o → ∀ e ∈ o.after, Region.binds .any e = true → e.on < i
  data : ∀ k j ok oj t, k < n → j < n → ops[k]? = some ok → ops[j]? = some oj → oj.dst = some t → t ∈ ok.looksAt ops → ∃ e ∈ ok.after, Region.binds .any e = true ∧ e.on = j
  uniq : ∀ k j ok oj t, k < n → j < n → ops[k]? = some ok → ops[j]? = some oj → oj.dst = some t → ok.dst = some t → k = j
  le : n ≤ ops.size
  sink : n < ops.size → ∀ i, i < n → ∃ j, i < j ∧ j ≤ n ∧ ∃ oj, ops[j]? = some oj ∧ ∃ e ∈ oj.after, Region.binds .any e = true ∧ e.on = i
  chain : ∀ t o, n < t → ops[t]? = some o → ∃ e ∈ o.after, Region.binds .any e = true ∧ e.on = t - 1

theorem any_spec {o : Oper} {j : Nat} (h : (o.after.any fun e => Region.binds .any e && e.on == j) = true) : ∃ e ∈ o.after, Region.binds .any e = true ∧ e.on = j := by
  obtain ⟨e, he, hb⟩ := Array.any_eq_true'.1 h
  simp only [Bool.and_eq_true, beq_iff_eq] at hb
  exact ⟨e, he, hb.1, hb.2⟩

theorem facts_of {n : Nat} (h : okB ops n = true) : Facts ops n := by
  simp only [okB, Bool.and_eq_true] at h
  obtain ⟨⟨⟨h1, h2⟩, h3⟩, h4⟩ := h
  simp only [tailB, Bool.and_eq_true, decide_eq_true_eq] at h4
  obtain ⟨⟨h4, h5⟩, h6⟩ := h4
  refine ⟨fun j o cs b ho => Region.noSelect_spec h1 j o cs b ho, fun i o ho e he hb => ?_, fun k j ok oj t hk hj hok hoj hd hm => ?_, fun k j ok oj t hk hj hok hoj hd hd' => ?_, h4, fun hn i hi => ?_, fun t o ht ho => ?_⟩
  · have hi : i < ops.size := (Array.getElem?_eq_some_iff.1 ho).1
    have := List.all_eq_true.1 h2 i (List.mem_range.2 hi)
    simp only [ho] at this
    have := Array.all_eq_true_iff_forall_mem.1 this e he
    simpa [hb] using this
  · have := List.all_eq_true.1 (List.all_eq_true.1 h3 k (List.mem_range.2 hk)) j (List.mem_range.2 hj)
    simp only [hok, hoj, hd, Bool.and_eq_true, Bool.or_eq_true] at this
    rcases this.1 with h' | h'
    · simp at h'; exact absurd hm h'
    · exact any_spec h'
  · have := List.all_eq_true.1 (List.all_eq_true.1 h3 k (List.mem_range.2 hk)) j (List.mem_range.2 hj)
    simp only [hok, hoj, hd, Bool.and_eq_true, Bool.or_eq_true] at this
    rcases this.2 with h' | h'
    · simpa using h'
    · simp [hd'] at h'
  · simp only [Bool.or_eq_true, decide_eq_true_eq] at h5
    rcases h5 with h5 | h5
    · omega
    · obtain ⟨j, hj, hj'⟩ := List.any_eq_true.1 (List.all_eq_true.1 h5 i (List.mem_range.2 hi))
      simp only [Bool.and_eq_true, decide_eq_true_eq] at hj'
      obtain ⟨hij, hj'⟩ := hj'
      have hjn := List.mem_range.1 hj
      cases hoj : ops[j]? with
      | none => simp [hoj] at hj'
      | some oj => simp only [hoj] at hj'; exact ⟨j, hij, by omega, oj, hoj, any_spec hj'⟩
  · have hi : t < ops.size := (Array.getElem?_eq_some_iff.1 ho).1
    have := List.all_eq_true.1 h6 t (List.mem_range.2 hi)
    simp only [Bool.or_eq_true, decide_eq_true_eq, ho] at this
    rcases this with h' | h'
    · omega
    · exact any_spec h'

/-- Two states that agree on what the operation looks at. -/
theorem gives_congr {o : Oper} {a b : Act} {v : Value} (hs : ∀ cs x, o.op ≠ .select cs x) (h : ∀ t ∈ o.looksAt ops, b.tmps[t]? = a.tmps[t]?) (hg : Leaves P ops C o a v) : Leaves P ops C o b v := by
  have he : execOp b.eval o = execOp a.eval o := execOp_congr o hs fun x hx => by
    cases x with
    | tmp t =>
      have : t ∈ o.looksAt ops := List.mem_append_left _ (List.mem_filterMap.2 ⟨.tmp t, by simpa using hx, rfl⟩)
      have := h t this
      simp only [Act.eval, Array.getD_eq_getD_getElem?, this]
    | _ => rfl
  have hw : Region.wanted o (yielded ops b.tmps) = Region.wanted o (yielded ops a.tmps) := by
    unfold Region.wanted
    cases hgd : o.guard with
    | none => rfl
    | some gw =>
      obtain ⟨g, want⟩ := gw
      have : yielded ops b.tmps g = yielded ops a.tmps g := by
        unfold yielded
        cases ht : (ops[g]?).bind (·.dst) with
        | none => rfl
        | some t =>
          have : t ∈ o.looksAt ops := by simp [Oper.looksAt, hgd, ht]
          simp only [Option.bind_some, h t this]
      simp only [this]
  unfold Leaves gives at *
  rw [he, hw]; exact hg

/-- Where the walk stands, in whatever order: what is listed has left its value, and nothing else has turned. -/
structure Inv (ops : Array Oper) (n : Nat) (a : Act) (vs : List Value) (listed : Array Bool) (b : Act) : Prop where
  size : listed.size = ops.size
  tmps : b.tmps.size = a.tmps.size
  defers : b.defers = a.defers
  done : ∀ i o t, i < n → ops[i]? = some o → o.dst = some t → listed.getD i false = true → b.tmps[t]? = if t < a.tmps.size then some (vs.getD i undef) else none
  rest : ∀ t, (∀ i o, i < n → ops[i]? = some o → listed.getD i false = true → o.dst ≠ some t) → b.tmps[t]? = a.tmps[t]?
  tail : ∀ t, n ≤ t → listed.getD t false = false

theorem ready_of_least {n i : Nat} {listed : Array Bool} (F : Facts ops n) (hs : listed.size = ops.size) (hi : listed.getD i true = false) (hl : ∀ j, j < i → listed.getD j false = true) :
    i ∈ Region.ready .any ops listed := by
  have hlt : i < ops.size := by
    rcases Nat.lt_or_ge i listed.size with h' | h'
    · omega
    · simp [Array.getElem?_eq_none h'] at hi
  refine mem_ready.2 ⟨hi, ops[i], by simp [hlt], fun e he hb => hl _ (F.back i _ (by simp [hlt]) e he hb)⟩

theorem least_out : ∀ (m : Nat) (p : Nat → Prop), (∃ i, i < m ∧ p i) → ∃ i, p i ∧ ∀ j, j < i → ¬ p j := by
  intro m p ⟨i, hx, hi⟩
  clear hx
  induction i using Nat.strongRecOn with
  | _ i ih =>
    by_cases h : ∃ j, j < i ∧ p j
    · obtain ⟨j, hj, hp⟩ := h
      exact ih j hj hp
    · exact ⟨i, hi, fun j hj hp => h ⟨j, hj, hp⟩⟩

theorem exists_out {m : Nat} {listed : Array Bool} (h : ¬ ∀ i, i < m → listed.getD i true = true) : ∃ i, i < m ∧ listed.getD i true = false := by
  apply Classical.byContradiction
  intro hn
  apply h
  intro i hi
  cases hx : listed.getD i true with
  | true => rfl
  | false => exact absurd ⟨i, hi, hx⟩ hn

/-- While something of the head stands out nothing of the tail is ready. -/
theorem ready_head {n i : Nat} {listed : Array Bool} (F : Facts ops n) (hs : listed.size = ops.size) (hlt : n < ops.size → ∃ j, j < n ∧ listed.getD j true = false) (htail : ∀ t, n ≤ t → listed.getD t false = false)
    (hdep : ∀ k o, ops[k]? = some o → listed.getD k false = true → ∀ e ∈ o.after, Region.binds .any e = true → listed.getD e.on false = true)
    (hi : i ∈ Region.ready .any ops listed) : i < n := by
  obtain ⟨_, o, ho, hall⟩ := mem_ready.1 hi
  have his : i < ops.size := (Array.getElem?_eq_some_iff.1 ho).1
  apply Classical.byContradiction
  intro hni
  have hn : n < ops.size := by omega
  by_cases hin : i = n
  · subst hin
    -- go up from an outstanding one to the first of the tail
    have up : ∀ d j, i - j = d → j < i → listed.getD j true = false → False := by
      intro d
      induction d using Nat.strongRecOn with
      | _ d ih =>
        intro j hd hj hun
        obtain ⟨k, hjk, hki, ok, hok, e, he, hb, hon⟩ := F.sink hn j hj
        have hjf : listed.getD j false = false := by rw [getD_of (by omega) false true]; exact hun
        by_cases hk : k = i
        · subst hk
          obtain rfl : ok = o := Option.some.inj (hok.symm.trans ho)
          have := hall e he hb
          rw [hon, hjf] at this; cases this
        · have hkl : listed.getD k false = false := by
            cases hx : listed.getD k false with
            | false => rfl
            | true => have := hdep k ok hok hx e he hb; rw [hon, hjf] at this; cases this
          exact ih (i - k) (by omega) k rfl (by omega) (by rw [getD_of (by omega) true false]; exact hkl)
    obtain ⟨j, hj, hun⟩ := hlt hn
    exact up _ j rfl hj hun
  · obtain ⟨e, he, hb, hon⟩ := F.chain i o (by omega) ho
    have := hall e he hb
    rw [hon, htail (i - 1) (by omega)] at this; cases this

/-- The tail, in sequence. -/
theorem tail_ok {Q : Exit → Act → World → Prop} {n : Nat} (F : Facts ops n) : ∀ (l : List Oper) (k fuel : Nat) (listed : Array Bool) (a : Act) (w : World),
    n ≤ k → l.length = fuel → k + l.length = ops.size → (∀ j, l[j]? = ops[k + j]?) → listed.size = ops.size → (∀ j, j < k → listed.getD j false = true) → (∀ j, k ≤ j → listed.getD j false = false) →
    wpList P ops Q l a w → wpAny P .any ops Q fuel listed a w
  | [], k, fuel, listed, a, w, hn, hf, hk, hl, hs, hlow, hhigh, h => by
    have hf : fuel = 0 := by simpa using hf.symm
    subst hf
    refine ⟨?_, h⟩
    apply List.eq_nil_iff_forall_not_mem.2
    intro i hi
    obtain ⟨h0, o, ho, _⟩ := mem_ready.1 hi
    have his : i < ops.size := (Array.getElem?_eq_some_iff.1 ho).1
    have := hlow i (by simp at hk; omega)
    rw [getD_of (by omega) false true, h0] at this; cases this
  | o :: l, k, fuel, listed, a, w, hn, hf, hk, hl, hs, hlow, hhigh, h => by
    obtain ⟨g, rfl⟩ : ∃ g, fuel = g + 1 := ⟨l.length, by simpa using hf.symm⟩
    have h0 : ops[k]? = some o := by simpa using (hl 0).symm
    have hks : k < ops.size := (Array.getElem?_eq_some_iff.1 h0).1
    have hready : ∀ i, i ∈ Region.ready .any ops listed → i = k := by
      intro i hi
      obtain ⟨hun, oi, hoi, hall⟩ := mem_ready.1 hi
      have his : i < ops.size := (Array.getElem?_eq_some_iff.1 hoi).1
      have hki : k ≤ i := by
        apply Classical.byContradiction
        intro hc
        have := hlow i (by omega)
        rw [getD_of (by omega) false true, hun] at this; cases this
      by_cases hik : i = k
      · exact hik
      · obtain ⟨e, he, hb, hon⟩ := F.chain i oi (by omega) hoi
        have := hall e he hb
        rw [hon, hhigh (i - 1) (by omega)] at this; cases this
    have hkr : k ∈ Region.ready .any ops listed := ready_of_least F hs (by rw [getD_of (by omega) true false]; exact hhigh k (Nat.le_refl _)) hlow
    refine ⟨(fun he => by rw [he] at hkr; cases hkr), fun i hi => ?_⟩
    obtain rfl := hready i hi
    have hw : wpOp P ops Q i (wpList P ops Q l) a w := by unfold wpOp; simp only [h0]; exact h
    refine wpOp_mono (fun a' w' h' => tail_ok F l (i + 1) g _ a' w' (by omega) (by simpa using hf) (by simp at hk; omega) (fun j => by have := hl (j + 1); simpa [Nat.add_assoc, Nat.add_comm 1 j] using this) (by simp [hs]) (fun j hj => ?_) (fun j hj => ?_) h') hw
    · by_cases hij : i = j
      · subst hij; simp [hs, hks]
      · rw [getD_set_ne false hij]; exact hlow j (by omega)
    · rw [getD_set_ne false (by omega)]; exact hhigh j (by omega)

theorem wpOp_of_leaves {Q : Exit → Act → World → Prop} {K : Act → World → Prop} {i : Nat} {o : Oper} {a : Act} {w : World} {v : Value} (hi : ops[i]? = some o) (hC : C w) (h : Leaves P ops C o a v)
    (hK : ∀ w', C w' → K (a.put o.dst v) w') : wpOp P ops Q i K a w := by
  unfold wpOp
  simp only [hi]
  rcases h with ⟨hw, hv⟩ | ⟨hw, rfl⟩
  · simp only [hw, if_true]
    refine .inl ?_
    have h3 := hv w hC
    unfold Oper.wp
    generalize (execOp a.eval o).run P w = r at *
    cases r with
    | ok n w' =>
      cases n <;> simp only [upon] at h3 <;> simp only [Oper.upon]
      case value u => obtain ⟨rfl, hc⟩ := h3; exact hK _ hc
      case skip => obtain ⟨rfl, hc⟩ := h3; exact hK _ hc
      case enter f args => exact h3.mono fun e w'' ⟨he, hc⟩ => by subst he; exact hK _ hc
    | halt x w' => simp only [upon] at h3
  · simp only [hw, Bool.false_eq_true, if_false]; exact hK _ hC

/-- All orders. -/
theorem head_ok {Q : Exit → Act → World → Prop} {n : Nat} (F : Facts ops n) {a : Act} {vs : List Value} (hvl : vs.length = n)
    (hv : ∀ k o, k < n → ops[k]? = some o → Leaves P ops C o (puts a (ops.toList.take k) (vs.take k)) (vs.getD k undef))
    (hQ : ∀ w, C w → wpList P ops Q (ops.toList.drop n) (puts a (ops.toList.take n) vs) w) :
    ∀ (fuel : Nat) (listed : Array Bool) (b : Act) (w : World), C w → Inv ops n a vs listed b →
      (∀ k o, ops[k]? = some o → listed.getD k false = true → ∀ e ∈ o.after, Region.binds .any e = true → listed.getD e.on false = true) →
      fuel = out listed → wpAny P .any ops Q fuel listed b w := by
  have hle := F.le
  have htk : ∀ k, k ≤ n → ∀ (j : Nat) (o : Oper), (ops.toList.take k)[j]? = some o ↔ (j < k ∧ ops[j]? = some o) := fun k hk j o => by
    rw [List.getElem?_take]
    split
    · rename_i h; simp [h]
    · rename_i h; simp [h]
  intro fuel
  induction fuel with
  | zero =>
    intro listed b w hC inv hdep hf
    -- nothing stands out: the head is done and there is no tail
    have hall : ∀ i, i < ops.size → listed.getD i false = true := by
      intro i hi
      cases hx : listed.getD i false with
      | true => rfl
      | false => have := out_pos (listed := listed) (i := i) (by rw [getD_of (by rw [inv.size]; omega) true false]; exact hx); omega
    have hns : n = ops.size := by
      apply Classical.byContradiction
      intro hc
      have := hall n (by omega)
      rw [inv.tail n (Nat.le_refl _)] at this; cases this
    have hb : b = puts a (ops.toList.take n) vs := by
      have ht : b.tmps = (puts a (ops.toList.take n) vs).tmps := by
        apply Array.ext_getElem?
        intro t
        by_cases hex : ∃ i o, i < n ∧ ops[i]? = some o ∧ o.dst = some t
        · obtain ⟨i, o, hi, ho, hd⟩ := hex
          rw [inv.done i o t hi ho hd (hall i (by omega)), puts_at _ vs a i o ((htk n (Nat.le_refl _) i o).2 ⟨hi, ho⟩) hd (by simp [hvl]; omega) (fun j o' hj hd' => by
            obtain ⟨hj1, hj2⟩ := (htk n (Nat.le_refl _) j o').1 hj
            exact F.uniq j i o' o t hj1 hi hj2 ho hd hd')]
        · rw [inv.rest t (fun i o hi ho _ hd => hex ⟨i, o, hi, ho, hd⟩), puts_other _ vs a (fun k o hk hd => by
            obtain ⟨hj1, hj2⟩ := (htk n (Nat.le_refl _) k o).1 hk
            exact hex ⟨k, o, hj1, hj2, hd⟩)]
      have hd : b.defers = (puts a (ops.toList.take n) vs).defers := by rw [inv.defers, puts_defers]
      cases b; cases hp : puts a (ops.toList.take n) vs; simp_all
    refine tail_ok F (ops.toList.drop n) n 0 listed b w (Nat.le_refl _) (by simp [hns]) (by simp [hns]) (fun j => by simp [List.getElem?_drop]) inv.size (fun j hj => hall j (by omega)) (fun j hj => inv.tail j hj) (by rw [hb]; exact hQ w hC)
  | succ fuel ih =>
    intro listed b w hC inv hdep hf
    by_cases hall : ∀ i, i < n → listed.getD i true = true
    · -- the head is done
      have hlow : ∀ j, j < n → listed.getD j false = true := fun j hj => by rw [getD_of (by rw [inv.size]; omega) false true]; exact hall j hj
      have hb : b = puts a (ops.toList.take n) vs := by
        have ht : b.tmps = (puts a (ops.toList.take n) vs).tmps := by
          apply Array.ext_getElem?
          intro t
          by_cases hex : ∃ i o, i < n ∧ ops[i]? = some o ∧ o.dst = some t
          · obtain ⟨i, o, hi, ho, hd⟩ := hex
            rw [inv.done i o t hi ho hd (hlow i hi), puts_at _ vs a i o ((htk n (Nat.le_refl _) i o).2 ⟨hi, ho⟩) hd (by simp [hvl]; omega) (fun j o' hj hd' => by
              obtain ⟨hj1, hj2⟩ := (htk n (Nat.le_refl _) j o').1 hj
              exact F.uniq j i o' o t hj1 hi hj2 ho hd hd')]
          · rw [inv.rest t (fun i o hi ho _ hd => hex ⟨i, o, hi, ho, hd⟩), puts_other _ vs a (fun k o hk hd => by
              obtain ⟨hj1, hj2⟩ := (htk n (Nat.le_refl _) k o).1 hk
              exact hex ⟨k, o, hj1, hj2, hd⟩)]
        have hd : b.defers = (puts a (ops.toList.take n) vs).defers := by rw [inv.defers, puts_defers]
        cases b; cases hp : puts a (ops.toList.take n) vs; simp_all
      have hlen : (ops.toList.drop n).length = fuel + 1 := by
        rw [hf]
        have : ∀ (l : List Bool) (m : Nat), m ≤ l.length → (∀ j, j < m → l[j]? = some true) → (∀ j, m ≤ j → j < l.length → l[j]? = some false) → l.count false = l.length - m := by
          intro l
          induction l with
          | nil => intro m _ _ _; simp
          | cons x l ih2 =>
            intro m hm h1 h2
            cases m with
            | zero =>
              have hx : x = false := by simpa using h2 0 (Nat.le_refl _) (by simp)
              subst hx
              have := ih2 0 (Nat.zero_le _) (fun j hj => by omega) (fun j _ hj => by simpa using h2 (j + 1) (by omega) (by simpa using hj))
              simp [this]
            | succ m =>
              have hx : x = true := by simpa using h1 0 (by omega)
              subst hx
              have := ih2 m (by simpa using hm) (fun j hj => by simpa using h1 (j + 1) (by omega)) (fun j hj hj' => by simpa using h2 (j + 1) (by omega) (by simpa using hj'))
              simp [this]
        have hcount := this listed.toList n (by simp [inv.size]; omega) (fun j hj => by
            have := hlow j hj
            have hjs : j < listed.size := by rw [inv.size]; omega
            simp [hjs] at this ⊢; exact this) (fun j hj hjl => by
            have := inv.tail j hj
            have hjs : j < listed.size := by simpa using hjl
            simp [hjs] at this ⊢; exact this)
        simp only [List.length_drop, Array.length_toList, out, hcount, inv.size]
      exact tail_ok F (ops.toList.drop n) n (fuel + 1) listed b w (Nat.le_refl _) hlen (by simp; omega) (fun j => by simp [List.getElem?_drop]) inv.size hlow (fun j hj => inv.tail j hj) (by rw [hb]; exact hQ w hC)
    · obtain ⟨i0, hi0, hun0⟩ := exists_out hall
      have hne : Region.ready .any ops listed ≠ [] := by
        obtain ⟨i, hi, hmin⟩ := least_out (i0 + 1) (fun i => listed.getD i true = false) ⟨i0, by omega, hun0⟩
        have hii : i < listed.size := by
          rcases Nat.lt_or_ge i listed.size with h' | h'
          · exact h'
          · simp [Array.getElem?_eq_none h'] at hi
        have := ready_of_least F inv.size hi (fun j hj => by
          have hjl := hmin j hj
          rw [getD_of (by omega) false true]
          cases hx : listed.getD j true with
          | true => rfl
          | false => exact absurd hx hjl)
        intro he; rw [he] at this; cases this
      refine ⟨fun he => absurd he hne, fun i hi => ?_⟩
      have hin : i < n := ready_head F inv.size (fun _ => ⟨i0, hi0, hun0⟩) inv.tail hdep hi
      obtain ⟨hun, o, ho, hready⟩ := mem_ready.1 hi
      have his : i < ops.size := (Array.getElem?_eq_some_iff.1 ho).1
      have hl0 := hv i o hin ho
      have hl : Leaves P ops C o b (vs.getD i undef) := by
        refine gives_congr (fun cs x => F.sel i o cs x ho) (fun t ht => ?_) hl0
        by_cases hex : ∃ j oj, j < n ∧ ops[j]? = some oj ∧ oj.dst = some t
        · obtain ⟨j, oj, hj, hoj, hd⟩ := hex
          obtain ⟨e, he, hb, hon⟩ := F.data i j o oj t hin hj ho hoj hd ht
          have hjl : listed.getD j false = true := by have := hready e he hb; rwa [hon] at this
          have hji : j < i := by have := F.back i o ho e he hb; omega
          rw [inv.done j oj t hj hoj hd hjl, puts_at _ (vs.take i) a j oj ((htk i (by omega) j oj).2 ⟨hji, hoj⟩) hd (by simp [hvl]; omega) (fun k o' hk hd' => by
            obtain ⟨hj1, hj2⟩ := (htk i (by omega) k o').1 hk
            exact F.uniq k j o' oj t (by omega) hj hj2 hoj hd hd')]
          simp [hji]
        · rw [inv.rest t (fun k ok hk hok _ hd => hex ⟨k, ok, hk, hok, hd⟩), puts_other _ (vs.take i) a (fun k ok hk hd => by
            obtain ⟨hj1, hj2⟩ := (htk i (by omega) k ok).1 hk
            exact hex ⟨k, ok, by omega, hj2, hd⟩)]
      refine wpOp_of_leaves ho hC hl (fun w' hC' => ih _ _ w' hC' ?_ ?_ ?_)
      · refine ⟨by simp [inv.size], by rw [put_size, inv.tmps], by rw [put_defers, inv.defers], fun j oj t hj hoj hd hjl => ?_, fun t ht => ?_, fun t ht => by rw [getD_set_ne false (by omega)]; exact inv.tail t ht⟩
        · by_cases hij : i = j
          · subst hij
            obtain rfl : oj = o := Option.some.inj (hoj.symm.trans ho)
            rw [hd, put_same, inv.tmps]
          · rw [getD_set_ne false hij] at hjl
            rw [put_other b _ (fun e => hij (F.uniq i j o oj t hin hj ho hoj hd e))]
            exact inv.done j oj t hj hoj hd hjl
        · rw [put_other b _ (ht i o hin ho (by simp [inv.size, his]))]
          refine inv.rest t (fun k ok hk hok hkl => ht k ok hk hok (getD_set_true hkl))
      · intro k ok hok hkl e he hb
        by_cases hik : i = k
        · subst hik
          obtain rfl : ok = o := Option.some.inj (hok.symm.trans ho)
          exact getD_set_true (hready e he hb)
        · rw [getD_set_ne false hik] at hkl
          exact getD_set_true (hdep k ok hok hkl e he hb)
      · have := out_set hun; omega

/-- ONE WALK OF THE TEXT's ORDER SERVES EVERY ORDER. The head's operations each leave one value in every world of the class; the tail (from operation n on) is walked in sequence, in whatever world of the class. -/
theorem region {id : Nat} {Q : Exit → Act → World → Prop} {a : Act} {w : World} {l : List Oper} (n : Nat) (C : World → Prop) (hm : P.follows .mixedOrders = true) (hB : okB l.toArray n = true)
    (hC : C { w with drawn := w.drawn + 1 })
    (h : walk P l.toArray C (fun a' => ∀ w', C w' → wpList P l.toArray Q (l.drop n) a' w') (l.take n) a) : (Code.region id l.toArray true).wp P Q a w := by
  have F := facts_of hB
  obtain ⟨vs, hvl, hq, hv⟩ := walk_vals _ _ h
  have hn : n ≤ l.length := by simpa using F.le
  have hlen : vs.length = n := by rw [hvl]; simp; omega
  refine wp_region_any hm ?_
  have := head_ok (C := C) (Q := Q) F (a := a) (vs := vs) hlen (fun k o hk ho => by
    have := hv k o (by rw [List.getElem?_take]; simp [hk]; simpa using ho)
    simpa [List.take_take, Nat.min_eq_left (Nat.le_of_lt hk)] using this) (by simpa using hq)
    (Array.size l.toArray) (Array.replicate (Array.size l.toArray) false) a { w with drawn := w.drawn + 1 } hC
    ⟨by simp, rfl, rfl, fun i o t _ _ _ hl => by
      exfalso; rcases Nat.lt_or_ge i l.length with h' | h' <;> simp [h'] at hl, fun t _ => rfl, fun t _ => by rcases Nat.lt_or_ge t l.length with h' | h' <;> simp [h']⟩
    (fun k o _ hl => by exfalso; rcases Nat.lt_or_ge k l.length with h' | h' <;> simp [h'] at hl)
    (by simp [out])
  exact this
end

/-! ### By the kit's own lexical walk ('wpQuiet'), and at the class 'nothing that was there has turned' -/
section
variable {P : Program} {ops : Array Oper} {C : World → Prop}
theorem walk_of_quiet {Q : Act → Prop} : ∀ (l : List Oper) (a : Act), wpQuiet P ops C Q l a → walk P ops C Q l a
  | [], _, h => h
  | o :: l, a, h => by
    unfold wpQuiet at h
    split at h
    · rename_i hw
      obtain ⟨v, h1, h2⟩ := h
      refine walk_yes hw v (fun w hC => ?_) (walk_of_quiet l _ h2)
      have h3 := h1 w hC
      unfold Oper.quietAt at h3
      generalize (execOp a.eval o).run P w = r at *
      cases r with
      | ok n w' =>
        cases n <;> simp only [Oper.quietUpon] at h3 <;> simp only [upon]
        case value u => exact ⟨h3.2, by rw [h3.1]; exact hC⟩
        case skip => exact ⟨h3.2, by rw [h3.1]; exact hC⟩
        case enter f args => rw [h3.1]; exact h3.2
      | halt x w' => simp only [Oper.quietUpon] at h3
    · rename_i hw
      exact walk_no (by simpa using hw) (walk_of_quiet l _ h)

theorem region_q {id : Nat} {Q : Exit → Act → World → Prop} {a : Act} {w : World} {l : List Oper} (n : Nat) (C : World → Prop) (hm : P.follows .mixedOrders = true) (hB : okB l.toArray n = true)
    (hC : C { w with drawn := w.drawn + 1 })
    (h : wpQuiet P l.toArray C (fun a' => ∀ w', C w' → wpList P l.toArray Q (l.drop n) a' w') (l.take n) a) : (Code.region id l.toArray true).wp P Q a w :=
  region n C hm hB hC (walk_of_quiet _ _ h)

/-- After some draws: the class for what reads alone. -/
theorem region_d {id : Nat} {Q : Exit → Act → World → Prop} {a : Act} {w : World} {l : List Oper} (n : Nat) (hm : P.follows .mixedOrders = true) (hB : okB l.toArray n = true)
    (h : wpQuiet P l.toArray (fun w' => ∃ n, w' = w.drewN n) (fun a' => ∀ w', (∃ n, w' = w.drewN n) → wpList P l.toArray Q (l.drop n) a' w') (l.take n) a) : (Code.region id l.toArray true).wp P Q a w :=
  region_q n _ hm hB ⟨1, rfl⟩ h
end

open RowKit in
/-- A world in which nothing has turned of what w holds. -/
structure Kept (w : World) where
  world : World
  below : Below w.heap.size w world
open RowKit in
instance (w : World) : Nonempty (Kept w) := ⟨⟨w, Below.refl _ _⟩⟩
section
variable {P : Program} {w : World}
open RowKit
theorem Kept.cell (k : Kept w) {b o : Nat} (h : b < w.heap.size) : k.world.cell? ⟨b, o, none⟩ = w.cell? ⟨b, o, none⟩ := k.below.cell (p := ⟨b, o, none⟩) h
theorem Kept.frozen (k : Kept w) {b o : Nat} (h : b < w.heap.size) : k.world.frozen? ⟨b, o, none⟩ = w.frozen? ⟨b, o, none⟩ := k.below.frozen (p := ⟨b, o, none⟩) h
theorem Kept.row (k : Kept w) {b : Nat} (h : b < w.heap.size) : k.world.heap[b]? = w.heap[b]? := k.below.block b h
/-- A callee that turns nothing that was there. -/
theorem Kept.call {k : Kept w} {f : FuncId} {args : Array Value} {v : Value} (h : Calls P f args k.world fun e w' => e = .returned v ∧ Below k.world.heap.size k.world w') :
    Calls P f args k.world fun e w'' => e = .returned v ∧ ∃ k' : Kept w, w'' = k'.world :=
  h.mono fun _ _ ⟨he, hb⟩ => ⟨he, ⟨_, k.below.trans (hb.mono k.below.size)⟩, rfl⟩
theorem region_k {id : Nat} {Q : Exit → Act → World → Prop} {a : Act} {l : List Oper} (n : Nat) (hm : P.follows .mixedOrders = true) (hB : okB l.toArray n = true)
    (h : wpQuiet P l.toArray (fun w' => ∃ k : Kept w, w' = k.world) (fun a' => ∀ w', (∃ k : Kept w, w' = k.world) → wpList P l.toArray Q (l.drop n) a' w') (l.take n) a) : (Code.region id l.toArray true).wp P Q a w :=
  region_q n _ hm hB ⟨⟨_, (Below.refl _ _).drew⟩, rfl⟩ h
end
end Go.Calm
