/-
  A region that draws its order, inside the wide fence: a head of readers in whatever order, then a tail in sequence (a call of a loop's body too). No program is in sight.
-/
import Derived.Test.YtmpcknjmdealgaaDoorCalm
import Derived.OrdersIn
import Derived.TacticsIn
namespace Go.Calm
variable {nn : Nat} {P : Program} {ops : Array Oper} {C : World → Prop}
theorem wpOpIn_of_leaves {Q : Exit → Act → World → Prop} {K : Act → World → Prop} {i : Nat} {o : Oper} {a : Act} {w : World} {v : Value} (hi : ops[i]? = some o) (hC : C w) (h : Leaves P ops C o a v)
    (hK : ∀ w', C w' → K (a.put o.dst v) w') : wpOpIn Fence.wide nn P ops Q i K a w := by
  unfold wpOpIn
  simp only [hi]
  rcases h with ⟨hw, hv⟩ | ⟨hw, rfl⟩
  · rw [if_pos hw]
    have h3 := hv w hC
    refine ⟨fun _ _ => trivial, ?_⟩
    show o.uponIn Fence.wide nn P a K Q ((execOp a.eval o).run P w)
    generalize (execOp a.eval o).run P w = r at *
    cases r with
    | ok n w' =>
      cases n <;> simp only [upon] at h3 <;> simp only [Oper.uponIn]
      case value u => obtain ⟨rfl, hc⟩ := h3; exact hK _ hc
      case skip => obtain ⟨rfl, hc⟩ := h3; exact hK _ hc
      case enter f args => exact ⟨fun hd => by simp [Fence.wide] at hd, callsIn_wide.2 (h3.mono fun e w'' ⟨he, hc⟩ => by subst he; exact hK _ hc)⟩
    | halt x w' => simp only [upon] at h3
  · rw [if_neg (by rw [hw]; simp)]
    exact ⟨fun _ _ => trivial, hK _ hC⟩

/-- The tail, in sequence. -/
theorem tail_okIn {Q : Exit → Act → World → Prop} {n : Nat} (F : Facts ops n) : ∀ (l : List Oper) (k fuel : Nat) (listed : Array Bool) (a : Act) (w : World),
    n ≤ k → l.length = fuel → k + l.length = ops.size → (∀ j, l[j]? = ops[k + j]?) → listed.size = ops.size → (∀ j, j < k → listed.getD j false = true) → (∀ j, k ≤ j → listed.getD j false = false) →
    wpListIn Fence.wide nn P ops Q l a w → wpAnyIn Fence.wide nn P .any ops Q fuel listed a w
  | [], k, fuel, listed, a, w, hn, hf, hk, hl, hs, hlow, hhigh, h => by
    have hf : fuel = 0 := by simpa using hf.symm
    subst hf
    refine ⟨?_, h⟩
    apply List.eq_nil_iff_forall_not_mem.2
    intro i hi
    obtain ⟨h0, o, ho, _⟩ := mem_ready.1 hi
    have his : i < ops.size := (Array.getElem?_eq_some_iff.1 ho).1
    have := hlow i (by simp at hk; omega)
    rw [getD_of (by omega) false true, h0] at this; cases this
  | o :: l, k, fuel, listed, a, w, hn, hf, hk, hl, hs, hlow, hhigh, h => by
    obtain ⟨g, rfl⟩ : ∃ g, fuel = g + 1 := ⟨l.length, by simpa using hf.symm⟩
    have h0 : ops[k]? = some o := by simpa using (hl 0).symm
    have hks : k < ops.size := (Array.getElem?_eq_some_iff.1 h0).1
    have hready : ∀ i, i ∈ Region.ready .any ops listed → i = k := by
      intro i hi
      obtain ⟨hun, oi, hoi, hall⟩ := mem_ready.1 hi
      have his : i < ops.size := (Array.getElem?_eq_some_iff.1 hoi).1
      have hki : k ≤ i := by
        apply Classical.byContradiction
        intro hc
        have := hlow i (by omega)
        rw [getD_of (by omega) false true, hun] at this; cases this
      by_cases hik : i = k
      · exact hik
      · obtain ⟨e, he, hb, hon⟩ := F.chain i oi (by omega) hoi
        have := hall e he hb
        rw [hon, hhigh (i - 1) (by omega)] at this; cases this
    have hkr : k ∈ Region.ready .any ops listed := ready_of_least F hs (by rw [getD_of (by omega) true false]; exact hhigh k (Nat.le_refl _)) hlow
    refine ⟨(fun he => by rw [he] at hkr; cases hkr), fun i hi => ?_⟩
    obtain rfl := hready i hi
    have hw : wpOpIn Fence.wide nn P ops Q i (wpListIn Fence.wide nn P ops Q l) a w := by unfold wpOpIn; simp only [h0]; exact h
    refine wpOpIn_mono (fun a' w' h' => tail_okIn F l (i + 1) g _ a' w' (by omega) (by simpa using hf) (by simp at hk; omega) (fun j => by have := hl (j + 1); simpa [Nat.add_assoc, Nat.add_comm 1 j] using this) (by simp [hs]) (fun j hj => ?_) (fun j hj => ?_) h') hw
    · by_cases hij : i = j
      · subst hij; simp [hs, hks]
      · rw [getD_set_ne false hij]; exact hlow j (by omega)
    · rw [getD_set_ne false (by omega)]; exact hhigh j (by omega)

/-- All orders. -/
theorem head_okIn {Q : Exit → Act → World → Prop} {n : Nat} (F : Facts ops n) {a : Act} {vs : List Value} (hvl : vs.length = n)
    (hv : ∀ k o, k < n → ops[k]? = some o → Leaves P ops C o (puts a (ops.toList.take k) (vs.take k)) (vs.getD k undef))
    (hQ : ∀ w, C w → wpListIn Fence.wide nn P ops Q (ops.toList.drop n) (puts a (ops.toList.take n) vs) w) :
    ∀ (fuel : Nat) (listed : Array Bool) (b : Act) (w : World), C w → Inv ops n a vs listed b →
      (∀ k o, ops[k]? = some o → listed.getD k false = true → ∀ e ∈ o.after, Region.binds .any e = true → listed.getD e.on false = true) →
      fuel = out listed → wpAnyIn Fence.wide nn P .any ops Q fuel listed b w := by
  have hle := F.le
  have htk : ∀ k, k ≤ n → ∀ (j : Nat) (o : Oper), (ops.toList.take k)[j]? = some o ↔ (j < k ∧ ops[j]? = some o) := fun k hk j o => by
    rw [List.getElem?_take]
    split
    · rename_i h; simp [h]
    · rename_i h; simp [h]
  intro fuel
  induction fuel with
  | zero =>
    intro listed b w hC inv hdep hf
    -- nothing stands out: the head is done and there is no tail
    have hall : ∀ i, i < ops.size → listed.getD i false = true := by
      intro i hi
      cases hx : listed.getD i false with
      | true => rfl
      | false => have := out_pos (listed := listed) (i := i) (by rw [getD_of (by rw [inv.size]; omega) true false]; exact hx); omega
    have hns : n = ops.size := by
      apply Classical.byContradiction
      intro hc
      have := hall n (by omega)
      rw [inv.tail n (Nat.le_refl _)] at this; cases this
    have hb : b = puts a (ops.toList.take n) vs := by
      have ht : b.tmps = (puts a (ops.toList.take n) vs).tmps := by
        apply Array.ext_getElem?
        intro t
        by_cases hex : ∃ i o, i < n ∧ ops[i]? = some o ∧ o.dst = some t
        · obtain ⟨i, o, hi, ho, hd⟩ := hex
          rw [inv.done i o t hi ho hd (hall i (by omega)), puts_at _ vs a i o ((htk n (Nat.le_refl _) i o).2 ⟨hi, ho⟩) hd (by simp [hvl]; omega) (fun j o' hj hd' => by
            obtain ⟨hj1, hj2⟩ := (htk n (Nat.le_refl _) j o').1 hj
            exact F.uniq j i o' o t hj1 hi hj2 ho hd hd')]
        · rw [inv.rest t (fun i o hi ho _ hd => hex ⟨i, o, hi, ho, hd⟩), puts_other _ vs a (fun k o hk hd => by
            obtain ⟨hj1, hj2⟩ := (htk n (Nat.le_refl _) k o).1 hk
            exact hex ⟨k, o, hj1, hj2, hd⟩)]
      have hd : b.defers = (puts a (ops.toList.take n) vs).defers := by rw [inv.defers, puts_defers]
      cases b; cases hp : puts a (ops.toList.take n) vs; simp_all
    refine tail_okIn F (ops.toList.drop n) n 0 listed b w (Nat.le_refl _) (by simp [hns]) (by simp [hns]) (fun j => by simp [List.getElem?_drop]) inv.size (fun j hj => hall j (by omega)) (fun j hj => inv.tail j hj) (by rw [hb]; exact hQ w hC)
  | succ fuel ih =>
    intro listed b w hC inv hdep hf
    by_cases hall : ∀ i, i < n → listed.getD i true = true
    · -- the head is done
      have hlow : ∀ j, j < n → listed.getD j false = true := fun j hj => by rw [getD_of (by rw [inv.size]; omega) false true]; exact hall j hj
      have hb : b = puts a (ops.toList.take n) vs := by
        have ht : b.tmps = (puts a (ops.toList.take n) vs).tmps := by
          apply Array.ext_getElem?
          intro t
          by_cases hex : ∃ i o, i < n ∧ ops[i]? = some o ∧ o.dst = some t
          · obtain ⟨i, o, hi, ho, hd⟩ := hex
            rw [inv.done i o t hi ho hd (hlow i hi), puts_at _ vs a i o ((htk n (Nat.le_refl _) i o).2 ⟨hi, ho⟩) hd (by simp [hvl]; omega) (fun j o' hj hd' => by
              obtain ⟨hj1, hj2⟩ := (htk n (Nat.le_refl _) j o').1 hj
              exact F.uniq j i o' o t hj1 hi hj2 ho hd hd')]
          · rw [inv.rest t (fun i o hi ho _ hd => hex ⟨i, o, hi, ho, hd⟩), puts_other _ vs a (fun k o hk hd => by
              obtain ⟨hj1, hj2⟩ := (htk n (Nat.le_refl _) k o).1 hk
              exact hex ⟨k, o, hj1, hj2, hd⟩)]
        have hd : b.defers = (puts a (ops.toList.take n) vs).defers := by rw [inv.defers, puts_defers]
        cases b; cases hp : puts a (ops.toList.take n) vs; simp_all
      have hlen : (ops.toList.drop n).length = fuel + 1 := by
        rw [hf]
        have : ∀ (l : List Bool) (m : Nat), m ≤ l.length → (∀ j, j < m → l[j]? = some true) → (∀ j, m ≤ j → j < l.length → l[j]? = some false) → l.count false = l.length - m := by
          intro l
          induction l with
          | nil => intro m _ _ _; simp
          | cons x l ih2 =>
            intro m hm h1 h2
            cases m with
            | zero =>
              have hx : x = false := by simpa using h2 0 (Nat.le_refl _) (by simp)
              subst hx
              have := ih2 0 (Nat.zero_le _) (fun j hj => by omega) (fun j _ hj => by simpa using h2 (j + 1) (by omega) (by simpa using hj))
              simp [this]
            | succ m =>
              have hx : x = true := by simpa using h1 0 (by omega)
              subst hx
              have := ih2 m (by simpa using hm) (fun j hj => by simpa using h1 (j + 1) (by omega)) (fun j hj hj' => by simpa using h2 (j + 1) (by omega) (by simpa using hj'))
              simp [this]
        have hcount := this listed.toList n (by simp [inv.size]; omega) (fun j hj => by
            have := hlow j hj
            have hjs : j < listed.size := by rw [inv.size]; omega
            simp [hjs] at this ⊢; exact this) (fun j hj hjl => by
            have := inv.tail j hj
            have hjs : j < listed.size := by simpa using hjl
            simp [hjs] at this ⊢; exact this)
        simp only [List.length_drop, Array.length_toList, out, hcount, inv.size]
      exact tail_okIn F (ops.toList.drop n) n (fuel + 1) listed b w (Nat.le_refl _) hlen (by simp; omega) (fun j => by simp [List.getElem?_drop]) inv.size hlow (fun j hj => inv.tail j hj) (by rw [hb]; exact hQ w hC)
    · obtain ⟨i0, hi0, hun0⟩ := exists_out hall
      have hne : Region.ready .any ops listed ≠ [] := by
        obtain ⟨i, hi, hmin⟩ := least_out (i0 + 1) (fun i => listed.getD i true = false) ⟨i0, by omega, hun0⟩
        have hii : i < listed.size := by
          rcases Nat.lt_or_ge i listed.size with h' | h'
          · exact h'
          · simp [Array.getElem?_eq_none h'] at hi
        have := ready_of_least F inv.size hi (fun j hj => by
          have hjl := hmin j hj
          rw [getD_of (by omega) false true]
          cases hx : listed.getD j true with
          | true => rfl
          | false => exact absurd hx hjl)
        intro he; rw [he] at this; cases this
      refine ⟨fun he => absurd he hne, fun i hi => ?_⟩
      have hin : i < n := ready_head F inv.size (fun _ => ⟨i0, hi0, hun0⟩) inv.tail hdep hi
      obtain ⟨hun, o, ho, hready⟩ := mem_ready.1 hi
      have his : i < ops.size := (Array.getElem?_eq_some_iff.1 ho).1
      have hl0 := hv i o hin ho
      have hl : Leaves P ops C o b (vs.getD i undef) := by
        refine gives_congr (fun cs x => F.sel i o cs x ho) (fun t ht => ?_) hl0
        by_cases hex : ∃ j oj, j < n ∧ ops[j]? = some oj ∧ oj.dst = some t
        · obtain ⟨j, oj, hj, hoj, hd⟩ := hex
          obtain ⟨e, he, hb, hon⟩ := F.data i j o oj t hin hj ho hoj hd ht
          have hjl : listed.getD j false = true := by have := hready e he hb; rwa [hon] at this
          have hji : j < i := by have := F.back i o ho e he hb; omega
          rw [inv.done j oj t hj hoj hd hjl, puts_at _ (vs.take i) a j oj ((htk i (by omega) j oj).2 ⟨hji, hoj⟩) hd (by simp [hvl]; omega) (fun k o' hk hd' => by
            obtain ⟨hj1, hj2⟩ := (htk i (by omega) k o').1 hk
            exact F.uniq k j o' oj t (by omega) hj hj2 hoj hd hd')]
          simp [hji]
        · rw [inv.rest t (fun k ok hk hok _ hd => hex ⟨k, ok, hk, hok, hd⟩), puts_other _ (vs.take i) a (fun k ok hk hd => by
            obtain ⟨hj1, hj2⟩ := (htk i (by omega) k ok).1 hk
            exact hex ⟨k, ok, by omega, hj2, hd⟩)]
      refine wpOpIn_of_leaves ho hC hl (fun w' hC' => ih _ _ w' hC' ?_ ?_ ?_)
      · refine ⟨by simp [inv.size], by rw [put_size, inv.tmps], by rw [put_defers, inv.defers], fun j oj t hj hoj hd hjl => ?_, fun t ht => ?_, fun t ht => by rw [getD_set_ne false (by omega)]; exact inv.tail t ht⟩
        · by_cases hij : i = j
          · subst hij
            obtain rfl : oj = o := Option.some.inj (hoj.symm.trans ho)
            rw [hd, put_same, inv.tmps]
          · rw [getD_set_ne false hij] at hjl
            rw [put_other b _ (fun e => hij (F.uniq i j o oj t hin hj ho hoj hd e))]
            exact inv.done j oj t hj hoj hd hjl
        · rw [put_other b _ (ht i o hin ho (by simp [inv.size, his]))]
          refine inv.rest t (fun k ok hk hok hkl => ht k ok hk hok (getD_set_true hkl))
      · intro k ok hok hkl e he hb
        by_cases hik : i = k
        · subst hik
          obtain rfl : ok = o := Option.some.inj (hok.symm.trans ho)
          exact getD_set_true (hready e he hb)
        · rw [getD_set_ne false hik] at hkl
          exact getD_set_true (hdep k ok hok hkl e he hb)
      · have := out_set hun; omega

theorem regionIn {id : Nat} {Q : Exit → Act → World → Prop} {a : Act} {w : World} {l : List Oper} (n : Nat) (C : World → Prop) (hm : P.follows .mixedOrders = true) (hB : okB l.toArray n = true)
    (hC : C { w with drawn := w.drawn + 1 })
    (h : walk P l.toArray C (fun a' => ∀ w', C w' → wpListIn Fence.wide nn P l.toArray Q (l.drop n) a' w') (l.take n) a) : (Code.region id l.toArray true).wpIn Fence.wide nn P Q a w := by
  have F := facts_of hB
  obtain ⟨vs, hvl, hq, hv⟩ := walk_vals _ _ h
  have hn : n ≤ l.length := by simpa using F.le
  have hlen : vs.length = n := by rw [hvl]; simp; omega
  refine wpIn_region_any hm ?_
  have := head_okIn (C := C) (Q := Q) F (a := a) (vs := vs) hlen (fun k o hk ho => by
    have := hv k o (by rw [List.getElem?_take]; simp [hk]; simpa using ho)
    simpa [List.take_take, Nat.min_eq_left (Nat.le_of_lt hk)] using this) (by simpa using hq)
    (Array.size l.toArray) (Array.replicate (Array.size l.toArray) false) a { w with drawn := w.drawn + 1 } hC
    ⟨by simp, rfl, rfl, fun i o t _ _ _ hl => by
      exfalso; rcases Nat.lt_or_ge i l.length with h' | h' <;> simp [h'] at hl, fun t _ => rfl, fun t _ => by rcases Nat.lt_or_ge t l.length with h' | h' <;> simp [h']⟩
    (fun k o _ hl => by exfalso; rcases Nat.lt_or_ge k l.length with h' | h' <;> simp [h'] at hl)
    (by simp [out])
  exact this

theorem region_qIn {id : Nat} {Q : Exit → Act → World → Prop} {a : Act} {w : World} {l : List Oper} (n : Nat) (C : World → Prop) (hm : P.follows .mixedOrders = true) (hB : okB l.toArray n = true)
    (hC : C { w with drawn := w.drawn + 1 })
    (h : wpQuiet P l.toArray C (fun a' => ∀ w', C w' → wpListIn Fence.wide nn P l.toArray Q (l.drop n) a' w') (l.take n) a) : (Code.region id l.toArray true).wpIn Fence.wide nn P Q a w :=
  regionIn n C hm hB hC (walk_of_quiet _ _ h)
theorem region_dIn {id : Nat} {Q : Exit → Act → World → Prop} {a : Act} {w : World} {l : List Oper} (n : Nat) (hm : P.follows .mixedOrders = true) (hB : okB l.toArray n = true)
    (h : wpQuiet P l.toArray (fun w' => ∃ n, w' = w.drewN n) (fun a' => ∀ w', (∃ n, w' = w.drewN n) → wpListIn Fence.wide nn P l.toArray Q (l.drop n) a' w') (l.take n) a) : (Code.region id l.toArray true).wpIn Fence.wide nn P Q a w :=
  region_qIn n _ hm hB ⟨1, rfl⟩ h
end Go.Calm
