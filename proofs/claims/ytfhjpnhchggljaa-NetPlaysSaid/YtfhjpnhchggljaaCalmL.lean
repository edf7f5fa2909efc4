/-
  A third law on regions that draw their order: as CalmB's, but the last operation, which waits for all the others, may leave the class. No program is in sight. (Printed from CalmB by mkcalml.py.)
-/
import Derived.Test.YtfhjpnhchggljaaCalmB
namespace Go.Calm
section
variable {P : Program} {ops : Array Oper} {C : World → Prop} {Q : Exit → Act → World → Prop}
/-- The last one waits for every other, and is none of the readers. -/
def lastB (ops : Array Oper) (fs : List Bool) : Bool := !flag fs (ops.size - 1) && decide (0 < ops.size) && (List.range (ops.size - 1)).all fun j => !flag fs j || waits ops (ops.size - 1) j
theorem last_spec {fs : List Bool} (h : lastB ops fs = true) : flag fs (ops.size - 1) = false ∧ 0 < ops.size ∧ ∀ j, j < ops.size - 1 → flag fs j = true → waits ops (ops.size - 1) j = true := by
  simp only [lastB, Bool.and_eq_true, Bool.not_eq_true', decide_eq_true_eq] at h
  exact ⟨h.1.1, h.1.2, fun j hj hf => by have := List.all_eq_true.1 h.2 j (List.mem_range.2 hj); rw [hf] at this; simpa using this⟩
/-- The others, in sequence; each leaves a world of the class, and none panics. -/
def wpL (P : Program) (ops : Array Oper) (C : World → Prop) (Q : Exit → Act → World → Prop) : List Oper → Act → World → Prop
  | [], a, w => Q .normal a w
  | o :: rest, a, w => wpList P ops (fun e a' w' => e = .normal ∧ a'.defers = a.defers ∧ (rest = [] ∨ C w') ∧ wpL P ops C Q rest a' w') [o] a w
theorem wpL_nil {a : Act} {w : World} (h : Q .normal a w) : wpL P ops C Q [] a w := h
theorem wpL_step {a : Act} {w : World} {o : Oper} {rest : List Oper} (h : wpList P ops (fun e a' w' => e = .normal ∧ a'.defers = a.defers ∧ (rest = [] ∨ C w') ∧ wpL P ops C Q rest a' w') [o] a w) : wpL P ops C Q (o :: rest) a w := h
/-- One of the others, in a state that agrees with the one in which it was walked. -/
theorem wpOp_of_wpL {K : Act → World → Prop} {i : Nat} {o : Oper} {rest : List Oper} {b av : Act} {w : World} {Q0 : Exit → Act → World → Prop} (hi : ops[i]? = some o) (hs : ∀ cs x, o.op ≠ .select cs x)
    (hag : ∀ t ∈ o.looksAt ops, b.tmps[t]? = av.tmps[t]?) (h : wpL P ops C Q0 (o :: rest) av w)
    (hK : ∀ v w', (rest = [] ∨ C w') → wpL P ops C Q0 rest (av.put o.dst v) w' → K (b.put o.dst v) w') : wpOp P ops Q i K b w := by
  have he : execOp b.eval o = execOp av.eval o := execOp_congr o hs fun x hx => by
    cases x with
    | tmp t =>
      have : t ∈ o.looksAt ops := List.mem_append_left _ (List.mem_filterMap.2 ⟨.tmp t, by simpa using hx, rfl⟩)
      have := hag t this
      simp only [Act.eval, Array.getD_eq_getD_getElem?, this]
    | _ => rfl
  have hw : Region.wanted o (yielded ops b.tmps) = Region.wanted o (yielded ops av.tmps) := by
    unfold Region.wanted
    cases hgd : o.guard with
    | none => rfl
    | some gw =>
      obtain ⟨g, want⟩ := gw
      have : yielded ops b.tmps g = yielded ops av.tmps g := by
        unfold yielded
        cases ht : (ops[g]?).bind (·.dst) with
        | none => rfl
        | some t =>
          have : t ∈ o.looksAt ops := by simp [Oper.looksAt, hgd, ht]
          simp only [Option.bind_some, hag t this]
      simp only [this]
  unfold wpOp
  simp only [hi]
  unfold wpL wpList at h
  rw [hw]
  split
  · rename_i hwt
    rw [if_pos hwt] at h
    rcases h with h | ⟨_, x, y, hf, _⟩
    · refine .inl ?_
      unfold Oper.wp at *
      rw [he]
      generalize (execOp av.eval o).run P w = r at *
      cases r with
      | ok n w' =>
        cases n <;> simp only [Oper.upon, wpList] at h ⊢
        case value u => exact hK _ _ h.2.2.1 h.2.2.2
        case skip => exact hK _ _ h.2.2.1 h.2.2.2
        case defer d => exact (defers_ne h.2.1).elim
        case enter f args =>
          refine h.mono fun e w'' he => ?_
          cases e with
          | returned v => exact hK _ _ he.2.2.1 he.2.2.2
          | panicked c => exact absurd he.1 (by simp)
          | outgrown => obtain ⟨x, y, hf, _⟩ := he; simp at hf
        case row r as => exact h.mono fun v w'' he => hK _ _ he.2.2.1 he.2.2.2
      | halt x w' => cases x <;> simp only [Oper.upon] at h ⊢ <;> first | exact h.elim | exact absurd h.1 (by simp)
    · simp at hf
  · rename_i hwt
    rw [if_neg hwt] at h
    simp only [wpList] at h
    exact hK _ _ h.2.2.1 h.2.2.2

theorem shuffleL {fs : List Bool} (F : Facts2 ops fs) (hLast : lastB ops fs = true) {a : Act} {vs : List Value} (hvl : vs.length = (heads fs ops.toList).length)
    (hv : ∀ k o, (heads fs ops.toList)[k]? = some o → Holds P ops C o (puts a ((heads fs ops.toList).take k) (vs.take k)) (vs.getD k undef)) :
    ∀ (fuel : Nat) (listed : Array Bool) (m : Nat) (b av : Act) (w : World), (tails (fs.drop m) (ops.toList.drop m) = [] ∨ C w) →
      Inv2 ops fs a (puts a (heads fs ops.toList) vs) (fun i => vs.getD (heads (fs.take i) (ops.toList.take i)).length undef) listed m b av →
      wpL P ops C Q (tails (fs.drop m) (ops.toList.drop m)) av w → fuel = out listed → wpAny P .any ops Q fuel listed b w := by
  have hll : fs.length = ops.toList.length := by rw [F.len]; simp
  have lt : ∀ {i : Nat} {o : Oper}, ops[i]? = some o → i < ops.size := fun ho => (Array.getElem?_eq_some_iff.1 ho).1
  have tl : ∀ {i : Nat} {o : Oper}, ops[i]? = some o → ops.toList[i]? = some o := fun ho => by simpa using ho
  -- where a reader writes, the frame of all readers shows its value
  have atHead : ∀ i o t, flag fs i = true → ops[i]? = some o → o.dst = some t →
      (puts a (heads fs ops.toList) vs).tmps[t]? = if t < a.tmps.size then some (vs.getD (heads (fs.take i) (ops.toList.take i)).length undef) else none := by
    intro i o t hf ho hd
    refine puts_at _ vs a _ o (heads_at hll hf (tl ho)) hd hvl (fun p o' hp hd' => ?_)
    obtain ⟨j, hj, hjf, hjo, hjp⟩ := heads_mem fs ops.toList hll p o' hp
    have : j = i := F.uniq j i o' o t (by simpa using hjo) ho hd hd'
    subst this; exact hjp.symm
  have offHead : ∀ t, (∀ i o, flag fs i = true → ops[i]? = some o → o.dst ≠ some t) → (puts a (heads fs ops.toList) vs).tmps[t]? = a.tmps[t]? := by
    intro t ht
    refine puts_other _ vs a (fun p o hp => ?_)
    obtain ⟨j, hj, hjf, hjo, hjp⟩ := heads_mem fs ops.toList hll p o hp
    exact ht j o hjf (by simpa using hjo)
  intro fuel
  induction fuel with
  | zero =>
    intro listed m b av w hC inv hwp hf
    have hall : ∀ i, i < ops.size → listed.getD i false = true := by
      intro i hi
      cases hx : listed.getD i false with
      | true => rfl
      | false => have := out_pos (listed := listed) (i := i) (by rw [getD_of (by rw [inv.size]; omega) true false]; exact hx); omega
    have hb : b = av := by
      have ht : b.tmps = av.tmps := by
        apply Array.ext_getElem?
        intro t
        by_cases h1 : ∃ i o, flag fs i = false ∧ ops[i]? = some o ∧ o.dst = some t
        · obtain ⟨i, o, hfl, ho, hd⟩ := h1
          exact inv.tail i o t hfl ho hd (hall i (lt ho))
        · rw [inv.virt t (fun i o hfl ho _ hd => h1 ⟨i, o, hfl, ho, hd⟩)]
          by_cases h2 : ∃ i o, flag fs i = true ∧ ops[i]? = some o ∧ o.dst = some t
          · obtain ⟨i, o, hfl, ho, hd⟩ := h2
            rw [inv.head i o t hfl ho hd (hall i (lt ho)), atHead i o t hfl ho hd]
          · rw [inv.rest t (fun i o ho _ hd => by
              cases hx : flag fs i with
              | true => exact h2 ⟨i, o, hx, ho, hd⟩
              | false => exact h1 ⟨i, o, hx, ho, hd⟩), offHead t (fun i o hfl ho hd => h2 ⟨i, o, hfl, ho, hd⟩)]
      have hd : b.defers = av.defers := by rw [inv.db, inv.dv]
      cases b; cases av; simp_all
    have hnone := tails_none fs ops.toList hll m (fun j hm hj => by
      cases hx : fs.getD j true with
      | true => rfl
      | false => have := hall j (by simpa using hj); rw [inv.high j hm hx] at this; cases this)
    rw [hnone] at hwp
    refine ⟨?_, by rw [hb]; exact hwp⟩
    apply List.eq_nil_iff_forall_not_mem.2
    intro i hi
    obtain ⟨h0, o, ho, _⟩ := mem_ready.1 hi
    have := hall i (lt ho)
    rw [getD_of (by rw [inv.size]; exact lt ho) false true, h0] at this; cases this
  | succ fuel ih =>
    intro listed m b av w hC inv hwp hf
    -- something is ready: the least that stands out
    have hne : Region.ready .any ops listed ≠ [] := by
      have hex : ∃ i, i < ops.size ∧ listed.getD i true = false := by
        apply exists_out
        intro hall
        have : out listed = 0 := by
          unfold out
          rw [List.count_eq_zero]
          intro hm
          obtain ⟨i, hi, hx⟩ := List.getElem_of_mem hm
          have hi' : i < listed.size := by simpa using hi
          have := hall i (by rw [← inv.size]; exact hi')
          simp [hi'] at this
          simp [this] at hx
        omega
      obtain ⟨i0, hi0, hun0⟩ := hex
      obtain ⟨i, hi, hmin⟩ := least_out (i0 + 1) (fun i => listed.getD i true = false) ⟨i0, by omega, hun0⟩
      have hii : i < listed.size := by
        rcases Nat.lt_or_ge i listed.size with h' | h'
        · exact h'
        · simp [Array.getElem?_eq_none h'] at hi
      have : i ∈ Region.ready .any ops listed := by
        have his : i < ops.size := by rw [← inv.size]; exact hii
        refine mem_ready.2 ⟨hi, ops[i], by simp [his], fun e he hb => ?_⟩
        have hjl := hmin e.on (F.back i _ (by simp [his]) e he hb)
        have hlt := F.back i _ (by simp [his]) e he hb
        rw [getD_of (by omega) false true]
        cases hx : listed.getD e.on true with
        | true => rfl
        | false => exact absurd hx hjl
      intro he; rw [he] at this; cases this
    refine ⟨fun he => absurd he hne, fun i hi => ?_⟩
    obtain ⟨hun, o, ho, hready⟩ := mem_ready.1 hi
    have his : i < ops.size := lt ho
    have hunf : listed.getD i false = false := by rw [getD_of (by rw [inv.size]; exact his) false true]; exact hun
    -- the closure of what is listed
    have hdep' : ∀ k ok, ops[k]? = some ok → (listed.setIfInBounds i true).getD k false = true → ∀ e ∈ ok.after, Region.binds .any e = true → (listed.setIfInBounds i true).getD e.on false = true := by
      intro k ok hok hkl e he hb
      by_cases hik : i = k
      · subst hik
        obtain rfl : ok = o := Option.some.inj (hok.symm.trans ho)
        exact getD_set_true (hready e he hb)
      · rw [getD_set_ne false hik] at hkl
        exact getD_set_true (inv.dep k ok hok hkl e he hb)
    -- a slot that the operation looks at: whoever writes it and is listed stands ahead of it; whoever is not listed comes behind
    have looks : ∀ t ∈ o.looksAt ops, ∀ (j : Nat) (oj : Oper), ops[j]? = some oj → oj.dst = some t →
        (j < i ∧ listed.getD j false = true ∧ (flag fs j = true ∨ flag fs i = false)) ∨ (listed.getD j false = false ∧ i < j ∧ (flag fs i = true ∨ flag fs j = false)) := by
      intro t ht j oj hoj hd
      rcases F.data i j o oj t ho hoj hd ht with ⟨hji, ⟨e, he, hb, hon⟩, hfl⟩ | ⟨⟨e, he, hb, hon⟩, hfl⟩
      · exact .inl ⟨hji, by have := hready e he hb; rwa [hon] at this, hfl⟩
      · refine .inr ⟨?_, by have := F.back j oj hoj e he hb; omega, hfl⟩
        cases hx : listed.getD j false with
        | false => rfl
        | true => have := inv.dep j oj hoj hx e he hb; rw [hon, hunf] at this; cases this
    cases hfi : flag fs i with
    | true =>
      have hC : C w := by
        rcases hC with hnil | hC
        · exfalso
          obtain ⟨l1, l2, l3⟩ := last_spec hLast
          have hlo : ops[ops.size - 1]? = some ops[ops.size - 1] := by simp [show ops.size - 1 < ops.size by omega]
          have hlm : ops.size - 1 < m := by
            apply Classical.byContradiction
            intro hc
            obtain ⟨k, hk, hmin⟩ := least_out (ops.size) (fun k => m ≤ k ∧ flag fs k = false) ⟨ops.size - 1, by omega, by omega, l1⟩
            have hks : k < ops.size := by
              apply Classical.byContradiction
              intro hk2
              exact hmin (ops.size - 1) (by omega) ⟨by omega, l1⟩
            have := tails_at fs ops.toList hll m k ops[k] hk.1 (fun j h1 h2 => by
              cases hx : fs.getD j true with
              | true => rfl
              | false => exact absurd ⟨h1, hx⟩ (hmin j h2)) hk.2 (tl (by simp [hks]))
            rw [hnil] at this; cases this
          have hll' := inv.low (ops.size - 1) hlm (by omega) l1
          have hil : i ≠ ops.size - 1 := fun e => by subst e; rw [l1] at hfi; cases hfi
          obtain ⟨e, he, hb, hon⟩ := waits_spec hlo (l3 i (by omega) hfi)
          have := inv.dep _ _ hlo hll' e he hb
          rw [hon, hunf] at this; cases this
        · exact hC
      have hl0 := hv _ o (heads_at hll hfi (tl ho))
      have hl : Holds P ops C o b (vs.getD (heads (fs.take i) (ops.toList.take i)).length undef) := by
        refine Holds.congr (fun cs x => F.sel i o cs x ho) (fun t ht => ?_) hl0
        have htk : ∀ p (o' : Oper), ((heads fs ops.toList).take (heads (fs.take i) (ops.toList.take i)).length)[p]? = some o' → ∃ j, j < i ∧ flag fs j = true ∧ ops[j]? = some o' ∧ (heads (fs.take j) (ops.toList.take j)).length = p := by
          intro p o' hp
          rw [List.getElem?_take] at hp
          split at hp
          · rename_i hlt
            rw [heads_append fs ops.toList i hll, List.getElem?_append_left hlt] at hp
            obtain ⟨j, hj, hjf, hjo, hjp⟩ := heads_mem (fs.take i) (ops.toList.take i) (by simp [hll]) p o' hp
            have hji : j < i := by simp at hj; omega
            refine ⟨j, hji, ?_, ?_, ?_⟩
            · unfold flag
              have : (fs.take i).getD j true = fs.getD j true := by simp [hji]
              rw [← this]; exact hjf
            · simpa [List.getElem?_take, hji] using hjo
            · rw [List.take_take, List.take_take, Nat.min_eq_left (Nat.le_of_lt hji)] at hjp; exact hjp
          · cases hp
        by_cases hex : ∃ (j : Nat) (oj : Oper), ops[j]? = some oj ∧ oj.dst = some t
        · obtain ⟨j, oj, hoj, hd⟩ := hex
          rcases looks t ht j oj hoj hd with ⟨hji, hjl, hfl⟩ | ⟨hjl, hij, _⟩
          · have hfj : flag fs j = true := hfl.resolve_right (by rw [hfi]; simp)
            rw [inv.head j oj t hfj hoj hd hjl]
            have hpos : (heads (fs.take j) (ops.toList.take j)).length < (heads (fs.take i) (ops.toList.take i)).length := by
              have h1 := heads_at (fs := fs.take i) (l := ops.toList.take i) (by simp [hll]) (i := j) (o := oj) (by simp [hji]; simpa [flag] using hfj) (by simp [hji]; simpa using hoj)
              rw [List.take_take, List.take_take, Nat.min_eq_left (Nat.le_of_lt hji)] at h1
              exact (List.getElem?_eq_some_iff.1 h1).1
            rw [puts_at _ (vs.take (heads (fs.take i) (ops.toList.take i)).length) a (heads (fs.take j) (ops.toList.take j)).length oj (by rw [List.getElem?_take]; simp only [hpos, if_true]; exact heads_at hll hfj (tl hoj)) hd (by simp [hvl]) (fun p o' hp hd' => by
              obtain ⟨j', hj', hjf', hjo', hjp'⟩ := htk p o' hp
              have : j' = j := F.uniq j' j o' oj t hjo' hoj hd hd'
              subst this; exact hjp'.symm)]
            simp [hpos]
          · rw [inv.rest t (fun k ok hok hkl hd' => by
              have : k = j := F.uniq k j ok oj t hok hoj hd hd'
              subst this; rw [hjl] at hkl; cases hkl), puts_other _ _ a (fun p o' hp hd' => by
              obtain ⟨j', hj', hjf', hjo', hjp'⟩ := htk p o' hp
              have : j' = j := F.uniq j' j o' oj t hjo' hoj hd hd'
              omega)]
        · rw [inv.rest t (fun k ok hok _ hd' => hex ⟨k, ok, hok, hd'⟩), puts_other _ _ a (fun p o' hp hd' => by
            obtain ⟨j', hj', hjf', hjo', hjp'⟩ := htk p o' hp
            exact hex ⟨j', o', hjo', hd'⟩)]
      refine Holds.wpOp ho hC hl (ih _ m _ av w (.inr hC) ?_ hwp (by have := out_set hun; omega))
      refine ⟨by simp [inv.size], by rw [put_size, inv.tb], inv.tv, by rw [put_defers, inv.db], inv.dv, fun j oj t hfj hoj hd hjl => ?_, fun j oj t hfj hoj hd hjl => ?_, fun t ht => ?_, fun t ht => ?_, fun j hj hjs hfj => ?_, fun j hj hfj => ?_, hdep'⟩
      · by_cases hij : i = j
        · subst hij
          obtain rfl : oj = o := Option.some.inj (hoj.symm.trans ho)
          rw [hd, put_same, inv.tb]
        · rw [getD_set_ne false hij] at hjl
          rw [put_other b _ (fun e => hij (F.uniq i j o oj t ho hoj hd e))]
          exact inv.head j oj t hfj hoj hd hjl
      · have hij : i ≠ j := fun e => by subst e; rw [hfi] at hfj; cases hfj
        rw [getD_set_ne false hij] at hjl
        rw [put_other b _ (fun e => hij (F.uniq i j o oj t ho hoj hd e))]
        exact inv.tail j oj t hfj hoj hd hjl
      · rw [put_other b _ (ht i o ho (by simp [inv.size, his]))]
        exact inv.rest t (fun k ok hok hkl => ht k ok hok (getD_set_true hkl))
      · exact inv.virt t (fun k ok hfk hok hkl => ht k ok hfk hok (getD_set_true hkl))
      · exact getD_set_true (inv.low j hj hjs hfj)
      · have hij : i ≠ j := fun e => by subst e; rw [hfi] at hfj; cases hfj
        rw [getD_set_ne false hij]; exact inv.high j hj hfj
    | false =>
      -- one of the others: the next of them
      have hmi : m ≤ i := by
        apply Classical.byContradiction
        intro hc
        have := inv.low i (by omega) his hfi
        rw [hunf] at this; cases this
      have none_between : ∀ d j, i - j = d → m ≤ j → j < i → flag fs j = false → False := by
        intro d
        induction d using Nat.strongRecOn with
        | _ d ihd =>
          intro j hd hmj hj hfj
          rcases F.chain i j o ho hj hfi hfj with ⟨k, hjk, hki, hfk⟩ | ⟨e, he, hb, hon⟩
          · exact ihd (i - k) (by omega) k rfl (by omega) hki hfk
          · have := hready e he hb
            rw [hon, inv.high j hmj hfj] at this; cases this
      have hbetween : ∀ j, m ≤ j → j < i → flag fs j = true := fun j h1 h2 => by
        cases hx : flag fs j with
        | true => rfl
        | false => exact (none_between _ j rfl h1 h2 hx).elim
      have htl := tails_at fs ops.toList hll m i o hmi hbetween hfi (tl ho)
      rw [htl] at hwp
      refine wpOp_of_wpL ho (fun cs x => F.sel i o cs x ho) (fun t ht => ?_) hwp (fun v w' hC' hwp' => ih _ (i + 1) _ (av.put o.dst v) w' hC' ?_ hwp' (by have := out_set hun; omega))
      · by_cases hex : ∃ (j : Nat) (oj : Oper), ops[j]? = some oj ∧ oj.dst = some t
        · obtain ⟨j, oj, hoj, hd⟩ := hex
          rcases looks t ht j oj hoj hd with ⟨hji, hjl, _⟩ | ⟨hjl, hij, hfl⟩
          · cases hfj : flag fs j with
            | false => exact inv.tail j oj t hfj hoj hd hjl
            | true =>
              rw [inv.head j oj t hfj hoj hd hjl, inv.virt t (fun k ok hfk hok _ hd' => by
                have : k = j := F.uniq k j ok oj t hok hoj hd hd'
                subst this; rw [hfj] at hfk; cases hfk), atHead j oj t hfj hoj hd]
          · have hfj : flag fs j = false := hfl.resolve_left (by rw [hfi]; simp)
            have hno : ∀ (k : Nat) (ok : Oper), ops[k]? = some ok → listed.getD k false = true → ok.dst ≠ some t := fun k ok hok hkl hd' => by
              have : k = j := F.uniq k j ok oj t hok hoj hd hd'
              subst this; rw [hjl] at hkl; cases hkl
            rw [inv.rest t hno, inv.virt t (fun k ok _ hok hkl => hno k ok hok hkl), offHead t (fun k ok hfk hok hd' => by
              have : k = j := F.uniq k j ok oj t hok hoj hd hd'
              subst this; rw [hfj] at hfk; cases hfk)]
        · rw [inv.rest t (fun k ok hok _ hd' => hex ⟨k, ok, hok, hd'⟩), inv.virt t (fun k ok _ hok _ hd' => hex ⟨k, ok, hok, hd'⟩), offHead t (fun k ok _ hok hd' => hex ⟨k, ok, hok, hd'⟩)]
      · refine ⟨by simp [inv.size], by rw [put_size, inv.tb], by rw [put_size, inv.tv], by rw [put_defers, inv.db], by rw [put_defers, inv.dv], fun j oj t hfj hoj hd hjl => ?_, fun j oj t hfj hoj hd hjl => ?_, fun t ht => ?_, fun t ht => ?_, fun j hj hjs hfj => ?_, fun j hj hfj => ?_, hdep'⟩
        · have hij : i ≠ j := fun e => by subst e; rw [hfi] at hfj; cases hfj
          rw [getD_set_ne false hij] at hjl
          rw [put_other b _ (fun e => hij (F.uniq i j o oj t ho hoj hd e))]
          exact inv.head j oj t hfj hoj hd hjl
        · by_cases hij : i = j
          · subst hij
            obtain rfl : oj = o := Option.some.inj (hoj.symm.trans ho)
            rw [hd, put_same, put_same, inv.tb, inv.tv]
          · rw [getD_set_ne false hij] at hjl
            rw [put_other b _ (fun e => hij (F.uniq i j o oj t ho hoj hd e)), put_other av _ (fun e => hij (F.uniq i j o oj t ho hoj hd e))]
            exact inv.tail j oj t hfj hoj hd hjl
        · rw [put_other b _ (ht i o ho (by simp [inv.size, his]))]
          exact inv.rest t (fun k ok hok hkl => ht k ok hok (getD_set_true hkl))
        · rw [put_other av _ (ht i o hfi ho (by simp [inv.size, his]))]
          exact inv.virt t (fun k ok hfk hok hkl => ht k ok hfk hok (getD_set_true hkl))
        · by_cases hij : i = j
          · subst hij; simp [inv.size, his]
          · rw [getD_set_ne false hij]
            by_cases hjm : j < m
            · exact inv.low j hjm hjs hfj
            · have := hbetween j (by omega) (by omega)
              rw [hfj] at this; cases this
        · rw [getD_set_ne false (by omega)]; exact inv.high j (by omega) hfj

/-- WHATEVER ORDER IS DRAWN, it comes to the readers first, then the others in sequence. The readers read the same in every world of the class; the others stay within it. -/
theorem region_l {id : Nat} {a : Act} {w : World} {l : List Oper} (fs : List Bool) (C : World → Prop) (hm : P.follows .mixedOrders = true) (hB : okB2 l.toArray fs = true) (hL : lastB l.toArray fs = true) (hC : C w.drew)
    (h : wpQuiet P l.toArray C (fun a' => wpL P l.toArray C Q (tails fs l) a' w.drew) (heads fs l) a) : (Code.region id l.toArray true).wp P Q a w := by
  have F := facts2_of hB
  have hread : ∀ o ∈ heads fs l, readOp o.op = true := by
    intro o ho
    obtain ⟨p, hp, hpo⟩ := List.getElem_of_mem ho
    obtain ⟨j, hj, hjf, hjo, _⟩ := heads_mem fs l (by simpa using F.len) p o (by rw [List.getElem?_eq_getElem hp, hpo])
    exact F.read j o (by simpa using hjo) hjf
  obtain ⟨vs, hvl, hq, hv⟩ := quiet_vals _ _ hread h
  refine wp_region_any hm ?_
  exact shuffleL (C := C) (Q := Q) F hL (a := a) (vs := vs) hvl (fun k o hk => hv k o hk) _ _ 0 a (puts a (heads fs l) vs) w.drew (.inr hC)
    ⟨by simp, rfl, puts_size _ _ _, rfl, puts_defers _ _ _, fun i o t _ _ _ hl => by
      exfalso; rcases Nat.lt_or_ge i l.length with h' | h' <;> simp [h'] at hl, fun i o t _ _ _ hl => by
      exfalso; rcases Nat.lt_or_ge i l.length with h' | h' <;> simp [h'] at hl, fun t _ => rfl, fun t _ => rfl, fun j hj => by omega, fun t _ _ => by rcases Nat.lt_or_ge t l.length with h' | h' <;> simp [h'],
      fun k o _ hl => by exfalso; rcases Nat.lt_or_ge k l.length with h' | h' <;> simp [h'] at hl⟩ (by simpa using hq) (by simp [out])
end
end Go.Calm
