/-
  A region that draws its order and lays one block whose place in the order is free: a head of readers and callees that keep what lies, the laying, then a tail in sequence. No program is in sight.
-/
import Derived.Test.YtmpcknjmdealgaaDoorCalm
import Derived.Test.YtmpcknjmdealgaaDoorHeap
namespace Go.Calm
section
variable {P : Program} {ops : Array Oper} {C : World → Prop}
/-- All orders. -/
theorem head_okA {Q : Exit → Act → World → Prop} {n A : Nat} (hAn : A < n) (F : Facts ops n) {a : Act} {CS : Option Nat → World → Prop} {vS : Option Nat → List Value} (hvl : ∀ st, (vS st).length = n)
    (hv : ∀ st k o, k < n → k ≠ A → ops[k]? = some o → Leaves P ops (CS st) o (puts a (ops.toList.take k) ((vS st).take k)) ((vS st).getD k undef))
    (hA : ∀ oA, ops[A]? = some oA → oA.guard = none ∧ ∀ b w, CS none w → ∃ x w', (execOp b oA).run P w = .ok (.value ((vS (some x)).getD A undef)) w' ∧ CS (some x) w')
    (hsame : ∀ x j, j ≠ A → (vS (some x)).getD j undef = (vS none).getD j undef)
    (hQ : ∀ x w, CS (some x) w → wpList P ops Q (ops.toList.drop n) (puts a (ops.toList.take n) (vS (some x))) w) :
    ∀ (fuel : Nat) (listed : Array Bool) (b : Act) (w : World) (st : Option Nat), CS st w → (st = none ↔ listed.getD A false = false) → Inv ops n a (vS st) listed b →
      (∀ k o, ops[k]? = some o → listed.getD k false = true → ∀ e ∈ o.after, Region.binds .any e = true → listed.getD e.on false = true) →
      fuel = out listed → wpAny P .any ops Q fuel listed b w := by
  have hle := F.le
  have htk : ∀ k, k ≤ n → ∀ (j : Nat) (o : Oper), (ops.toList.take k)[j]? = some o ↔ (j < k ∧ ops[j]? = some o) := fun k hk j o => by
    rw [List.getElem?_take]
    split
    · rename_i h; simp [h]
    · rename_i h; simp [h]
  intro fuel
  induction fuel with
  | zero =>
    intro listed b w st hC hst inv hdep hf
    -- nothing stands out: the head is done and there is no tail
    have hall : ∀ i, i < ops.size → listed.getD i false = true := by
      intro i hi
      cases hx : listed.getD i false with
      | true => rfl
      | false => have := out_pos (listed := listed) (i := i) (by rw [getD_of (by rw [inv.size]; omega) true false]; exact hx); omega
    have hns : n = ops.size := by
      apply Classical.byContradiction
      intro hc
      have := hall n (by omega)
      rw [inv.tail n (Nat.le_refl _)] at this; cases this
    obtain ⟨x, rfl⟩ : ∃ x, st = some x := by
      cases st with
      | some x => exact ⟨x, rfl⟩
      | none => have := hst.1 rfl; rw [hall A (by omega)] at this; cases this
    have hb : b = puts a (ops.toList.take n) (vS (some x)) := by
      have ht : b.tmps = (puts a (ops.toList.take n) (vS (some x))).tmps := by
        apply Array.ext_getElem?
        intro t
        by_cases hex : ∃ i o, i < n ∧ ops[i]? = some o ∧ o.dst = some t
        · obtain ⟨i, o, hi, ho, hd⟩ := hex
          rw [inv.done i o t hi ho hd (hall i (by omega)), puts_at _ (vS (some x)) a i o ((htk n (Nat.le_refl _) i o).2 ⟨hi, ho⟩) hd (by simp [hvl]; omega) (fun j o' hj hd' => by
            obtain ⟨hj1, hj2⟩ := (htk n (Nat.le_refl _) j o').1 hj
            exact F.uniq j i o' o t hj1 hi hj2 ho hd hd')]
        · rw [inv.rest t (fun i o hi ho _ hd => hex ⟨i, o, hi, ho, hd⟩), puts_other _ (vS (some x)) a (fun k o hk hd => by
            obtain ⟨hj1, hj2⟩ := (htk n (Nat.le_refl _) k o).1 hk
            exact hex ⟨k, o, hj1, hj2, hd⟩)]
      have hd : b.defers = (puts a (ops.toList.take n) (vS (some x))).defers := by rw [inv.defers, puts_defers]
      cases b; cases hp : puts a (ops.toList.take n) (vS (some x)); simp_all
    refine tail_ok F (ops.toList.drop n) n 0 listed b w (Nat.le_refl _) (by simp [hns]) (by simp [hns]) (fun j => by simp [List.getElem?_drop]) inv.size (fun j hj => hall j (by omega)) (fun j hj => inv.tail j hj) (by rw [hb]; exact hQ x w hC)
  | succ fuel ih =>
    intro listed b w st hC hst inv hdep hf
    by_cases hall : ∀ i, i < n → listed.getD i true = true
    · -- the head is done
      have hlow : ∀ j, j < n → listed.getD j false = true := fun j hj => by rw [getD_of (by rw [inv.size]; omega) false true]; exact hall j hj
      obtain ⟨x, rfl⟩ : ∃ x, st = some x := by
        cases st with
        | some x => exact ⟨x, rfl⟩
        | none => have := hst.1 rfl; rw [hlow A hAn] at this; cases this
      have hb : b = puts a (ops.toList.take n) (vS (some x)) := by
        have ht : b.tmps = (puts a (ops.toList.take n) (vS (some x))).tmps := by
          apply Array.ext_getElem?
          intro t
          by_cases hex : ∃ i o, i < n ∧ ops[i]? = some o ∧ o.dst = some t
          · obtain ⟨i, o, hi, ho, hd⟩ := hex
            rw [inv.done i o t hi ho hd (hlow i hi), puts_at _ (vS (some x)) a i o ((htk n (Nat.le_refl _) i o).2 ⟨hi, ho⟩) hd (by simp [hvl]; omega) (fun j o' hj hd' => by
              obtain ⟨hj1, hj2⟩ := (htk n (Nat.le_refl _) j o').1 hj
              exact F.uniq j i o' o t hj1 hi hj2 ho hd hd')]
          · rw [inv.rest t (fun i o hi ho _ hd => hex ⟨i, o, hi, ho, hd⟩), puts_other _ (vS (some x)) a (fun k o hk hd => by
              obtain ⟨hj1, hj2⟩ := (htk n (Nat.le_refl _) k o).1 hk
              exact hex ⟨k, o, hj1, hj2, hd⟩)]
        have hd : b.defers = (puts a (ops.toList.take n) (vS (some x))).defers := by rw [inv.defers, puts_defers]
        cases b; cases hp : puts a (ops.toList.take n) (vS (some x)); simp_all
      have hlen : (ops.toList.drop n).length = fuel + 1 := by
        rw [hf]
        have : ∀ (l : List Bool) (m : Nat), m ≤ l.length → (∀ j, j < m → l[j]? = some true) → (∀ j, m ≤ j → j < l.length → l[j]? = some false) → l.count false = l.length - m := by
          intro l
          induction l with
          | nil => intro m _ _ _; simp
          | cons x l ih2 =>
            intro m hm h1 h2
            cases m with
            | zero =>
              have hx : x = false := by simpa using h2 0 (Nat.le_refl _) (by simp)
              subst hx
              have := ih2 0 (Nat.zero_le _) (fun j hj => by omega) (fun j _ hj => by simpa using h2 (j + 1) (by omega) (by simpa using hj))
              simp [this]
            | succ m =>
              have hx : x = true := by simpa using h1 0 (by omega)
              subst hx
              have := ih2 m (by simpa using hm) (fun j hj => by simpa using h1 (j + 1) (by omega)) (fun j hj hj' => by simpa using h2 (j + 1) (by omega) (by simpa using hj'))
              simp [this]
        have hcount := this listed.toList n (by simp [inv.size]; omega) (fun j hj => by
            have := hlow j hj
            have hjs : j < listed.size := by rw [inv.size]; omega
            simp [hjs] at this ⊢; exact this) (fun j hj hjl => by
            have := inv.tail j hj
            have hjs : j < listed.size := by simpa using hjl
            simp [hjs] at this ⊢; exact this)
        simp only [List.length_drop, Array.length_toList, out, hcount, inv.size]
      exact tail_ok F (ops.toList.drop n) n (fuel + 1) listed b w (Nat.le_refl _) hlen (by simp; omega) (fun j => by simp [List.getElem?_drop]) inv.size hlow (fun j hj => inv.tail j hj) (by rw [hb]; exact hQ x w hC)
    · obtain ⟨i0, hi0, hun0⟩ := exists_out hall
      have hne : Region.ready .any ops listed ≠ [] := by
        obtain ⟨i, hi, hmin⟩ := least_out (i0 + 1) (fun i => listed.getD i true = false) ⟨i0, by omega, hun0⟩
        have hii : i < listed.size := by
          rcases Nat.lt_or_ge i listed.size with h' | h'
          · exact h'
          · simp [Array.getElem?_eq_none h'] at hi
        have := ready_of_least F inv.size hi (fun j hj => by
          have hjl := hmin j hj
          rw [getD_of (by omega) false true]
          cases hx : listed.getD j true with
          | true => rfl
          | false => exact absurd hx hjl)
        intro he; rw [he] at this; cases this
      refine ⟨fun he => absurd he hne, fun i hi => ?_⟩
      have hin : i < n := ready_head F inv.size (fun _ => ⟨i0, hi0, hun0⟩) inv.tail hdep hi
      obtain ⟨hun, o, ho, hready⟩ := mem_ready.1 hi
      have his : i < ops.size := (Array.getElem?_eq_some_iff.1 ho).1
      by_cases hiA : i = A
      · subst hiA
        obtain ⟨hg, hrun⟩ := hA o ho
        have hnone : listed.getD i false = false := by rw [getD_of (by rw [inv.size]; exact his) false true]; exact hun
        obtain rfl : st = none := hst.2 hnone
        obtain ⟨x, w', hr, hC'⟩ := hrun b.eval w hC
        unfold wpOp
        simp only [ho]
        rw [if_pos (by unfold Region.wanted; rw [hg])]
        refine .inl ?_
        unfold Oper.wp
        rw [hr]
        refine ih _ _ w' (some x) hC' ?_ ?_ ?_ ?_
        · simp [inv.size, his]
        · refine ⟨by simp [inv.size], by rw [put_size, inv.tmps], by rw [put_defers, inv.defers], fun j oj t hj hoj hd hjl => ?_, fun t ht => ?_, fun t ht => by rw [getD_set_ne false (by omega)]; exact inv.tail t ht⟩
          · by_cases hij : i = j
            · subst hij
              obtain rfl : oj = o := Option.some.inj (hoj.symm.trans ho)
              rw [hd, put_same, inv.tmps]
            · rw [getD_set_ne false hij] at hjl
              rw [put_other b _ (fun e => hij (F.uniq i j o oj t hin hj ho hoj hd e)), hsame x j (fun e => hij e.symm)]
              exact inv.done j oj t hj hoj hd hjl
          · rw [put_other b _ (ht i o hin ho (by simp [inv.size, his]))]
            refine inv.rest t (fun k ok hk hok hkl => ht k ok hk hok (getD_set_true hkl))
        · intro k ok hok hkl e he hb
          by_cases hik : i = k
          · subst hik
            obtain rfl : ok = o := Option.some.inj (hok.symm.trans ho)
            exact getD_set_true (hready e he hb)
          · rw [getD_set_ne false hik] at hkl
            exact getD_set_true (hdep k ok hok hkl e he hb)
        · have := out_set hun; omega
      · have hl0 := hv st i o hin hiA ho
        have hl : Leaves P ops (CS st) o b ((vS st).getD i undef) := by
          refine gives_congr (fun cs x => F.sel i o cs x ho) (fun t ht => ?_) hl0
          by_cases hex : ∃ j oj, j < n ∧ ops[j]? = some oj ∧ oj.dst = some t
          · obtain ⟨j, oj, hj, hoj, hd⟩ := hex
            obtain ⟨e, he, hb, hon⟩ := F.data i j o oj t hin hj ho hoj hd ht
            have hjl : listed.getD j false = true := by have := hready e he hb; rwa [hon] at this
            have hji : j < i := by have := F.back i o ho e he hb; omega
            rw [inv.done j oj t hj hoj hd hjl, puts_at _ ((vS st).take i) a j oj ((htk i (by omega) j oj).2 ⟨hji, hoj⟩) hd (by simp [hvl]; omega) (fun k o' hk hd' => by
              obtain ⟨hj1, hj2⟩ := (htk i (by omega) k o').1 hk
              exact F.uniq k j o' oj t (by omega) hj hj2 hoj hd hd')]
            simp [hji]
          · rw [inv.rest t (fun k ok hk hok _ hd => hex ⟨k, ok, hk, hok, hd⟩), puts_other _ ((vS st).take i) a (fun k ok hk hd => by
              obtain ⟨hj1, hj2⟩ := (htk i (by omega) k ok).1 hk
              exact hex ⟨k, ok, by omega, hj2, hd⟩)]
        refine wpOp_of_leaves ho hC hl (fun w' hC' => ih _ _ w' st hC' (by rw [getD_set_ne false hiA]; exact hst) ?_ ?_ ?_)
        · refine ⟨by simp [inv.size], by rw [put_size, inv.tmps], by rw [put_defers, inv.defers], fun j oj t hj hoj hd hjl => ?_, fun t ht => ?_, fun t ht => by rw [getD_set_ne false (by omega)]; exact inv.tail t ht⟩
          · by_cases hij : i = j
            · subst hij
              obtain rfl : oj = o := Option.some.inj (hoj.symm.trans ho)
              rw [hd, put_same, inv.tmps]
            · rw [getD_set_ne false hij] at hjl
              rw [put_other b _ (fun e => hij (F.uniq i j o oj t hin hj ho hoj hd e))]
              exact inv.done j oj t hj hoj hd hjl
          · rw [put_other b _ (ht i o hin ho (by simp [inv.size, his]))]
            refine inv.rest t (fun k ok hk hok hkl => ht k ok hk hok (getD_set_true hkl))
        · intro k ok hok hkl e he hb
          by_cases hik : i = k
          · subst hik
            obtain rfl : ok = o := Option.some.inj (hok.symm.trans ho)
            exact getD_set_true (hready e he hb)
          · rw [getD_set_ne false hik] at hkl
            exact getD_set_true (hdep k ok hok hkl e he hb)
        · have := out_set hun; omega


end
open RowKit in
/-- A world in which nothing has turned of what w holds; and, where a block is named, that block is the row that was laid. -/
structure KeptA (w0 : World) (zs : List Value) (t : TypeId) (S : Option Nat) where
  world : World
  below : Below w0.heap.size w0 world
  cell : ∀ x, S = some x → Rw world x zs t ∧ w0.heap.size ≤ x
section
open RowKit
variable {P : Program} {w0 : World} {zs : List Value} {t : TypeId}
theorem KeptA.call {S : Option Nat} {k : KeptA w0 zs t S} {f : FuncId} {args : Array Value} {v : Value} (h : Calls P f args k.world fun e w' => e = .returned v ∧ Below k.world.heap.size k.world w') :
    Calls P f args k.world fun e w' => e = .returned v ∧ ∃ k' : KeptA w0 zs t S, w' = k'.world :=
  h.mono fun _ w' ⟨he, hb⟩ => ⟨he, ⟨w', k.below.trans (hb.mono k.below.size), fun x hx => ⟨(k.cell x hx).1.below hb, (k.cell x hx).2⟩⟩, rfl⟩
theorem puts_inj {l : List Oper} {a : Act} {vs vs' : List Value} (h1 : vs.length = l.length) (h2 : vs'.length = l.length) (hd : ∀ (k : Nat) (o : Oper), l[k]? = some o → ∃ t, o.dst = some t ∧ t < a.tmps.size ∧ ∀ (j : Nat) (o' : Oper), l[j]? = some o' → o'.dst = some t → j = k)
    (h : puts a l vs = puts a l vs') : vs = vs' := by
  apply List.ext_getElem (by omega)
  intro k hk hk'
  have hkl : k < l.length := by omega
  obtain ⟨t, ht, hlt, hu⟩ := hd k l[k] (List.getElem?_eq_getElem hkl)
  have e1 := puts_at l vs a k l[k] (List.getElem?_eq_getElem hkl) ht h1 (fun j o' hj hd' => hu j o' hj hd')
  have e2 := puts_at l vs' a k l[k] (List.getElem?_eq_getElem hkl) ht h2 (fun j o' hj hd' => hu j o' hj hd')
  rw [h, e2, if_pos hlt, if_pos hlt] at e1
  simpa [hk, hk'] using (Option.some.inj e1).symm
/-- The region, by the text's order: the head's n operations each leave one value; the block is laid somewhere among them. -/
theorem region_alloc {id : Nat} {Q : Exit → Act → World → Prop} {a a1 : Act} {w : World} {l : List Oper} (n : Nat) (zs : List Value) (t : TypeId) (oA : Oper) (tA : Tmp) (hoA : l[n]? = some oA) (hg : oA.guard = none) (hdA : oA.dst = some tA)
    (hrun : ∀ b w, (execOp b oA).run P w = .ok (.value (.pointer (some ⟨w.heap.size, 0, none⟩))) (w.alloc (.cells zs.toArray t))) (hm : P.follows .mixedOrders = true) (hB : okB l.toArray (n + 1) = true)
    (hds : (l.take n).all (fun o => match o.dst with | some d => decide (d < a.tmps.size) | none => false) = true)
    (h : ∀ S, Nonempty (KeptA w zs t S) → wpQuiet P l.toArray (fun w' => ∃ k : KeptA w zs t S, w' = k.world) (fun a' => a' = a1) (l.take n) a)
    (hQ : ∀ x w', Below w.heap.size w w' → w.heap.size ≤ x → Rw w' x zs t → wpList P l.toArray Q (l.drop (n + 1)) (a1.put (some tA) (.pointer (some ⟨x, 0, none⟩))) w') : (Code.region id l.toArray true).wp P Q a w := by
  have F := facts_of hB
  have hn : n < l.length := (List.getElem?_eq_some_iff.1 hoA).1
  have hlen : (l.take n).length = n := by simp; omega
  have h0 : Nonempty (KeptA w zs t none) := ⟨⟨w, Below.refl _ _, fun x hx => by cases hx⟩⟩
  obtain ⟨vs, hvl, hq, hv⟩ := walk_vals _ _ (walk_of_quiet _ _ (h none h0))
  rw [hlen] at hvl
  have hinj : ∀ (k : Nat) (o : Oper), (l.take n)[k]? = some o → ∃ t, o.dst = some t ∧ t < a.tmps.size ∧ ∀ (j : Nat) (o' : Oper), (l.take n)[j]? = some o' → o'.dst = some t → j = k := by
    intro k o ho
    have h1 := List.all_eq_true.1 hds o (List.mem_of_getElem? ho)
    cases hd : o.dst with
    | none => rw [hd] at h1; simp at h1
    | some d =>
      rw [hd] at h1
      refine ⟨d, rfl, by simpa using h1, fun j o' hj hd' => ?_⟩
      have hk : k < n := by have := (List.getElem?_eq_some_iff.1 ho).1; omega
      have hj2 : j < n := by have := (List.getElem?_eq_some_iff.1 hj).1; omega
      rw [List.getElem?_take, if_pos hk] at ho
      rw [List.getElem?_take, if_pos hj2] at hj
      exact F.uniq j k o' o d (by omega) (by omega) (by simpa using hj) (by simpa using ho) hd hd'
  have hvS : ∀ S k o, k < n → l.toArray[k]? = some o → Leaves P l.toArray (fun w' => ∃ k : KeptA w zs t S, w' = k.world) o (puts a ((l.take n).take k) (vs.take k)) (vs.getD k undef) := by
    intro S k o hk ho
    have ho' : (l.take n)[k]? = some o := by rw [List.getElem?_take, if_pos hk]; simpa using ho
    by_cases hne : Nonempty (KeptA w zs t S)
    · obtain ⟨vs', hvl', hq', hv'⟩ := walk_vals _ _ (walk_of_quiet _ _ (h S hne))
      have e : vs' = vs := puts_inj (by rw [hvl']) (by rw [hvl, hlen]) hinj (hq'.trans hq.symm)
      have := hv' k o ho'
      rw [e] at this
      exact this
    · rcases hv k o ho' with ⟨hw, _⟩ | ⟨hw, hu⟩
      · exact .inl ⟨hw, fun w' hC => absurd (by obtain ⟨k', _⟩ := hC; exact ⟨k'⟩) hne⟩
      · exact .inr ⟨hw, hu⟩
  obtain ⟨mk, hmk⟩ : ∃ mk : Option Nat → Value, mk = fun S => match S with | some x => .pointer (some ⟨x, 0, none⟩) | none => undef := ⟨_, rfl⟩
  refine wp_region_any hm ?_
  have key := head_okA (P := P) (ops := l.toArray) (Q := Q) (n := n + 1) (A := n) (by omega) F (a := a) (CS := fun S w' => ∃ k : KeptA w zs t S, w' = k.world) (vS := fun S => vs ++ [mk S])
    (fun st => by simp [hvl]) (fun st k o hk hkA ho => ?_) (fun o ho => ?_) (fun x j hj => ?_) (fun x w' hC => ?_)
    (Array.size l.toArray) (Array.replicate (Array.size l.toArray) false) a { w with drawn := w.drawn + 1 } none ⟨⟨_, (Below.refl _ w).drew, fun x hx => by cases hx⟩, rfl⟩
    ⟨fun _ => by rcases Nat.lt_or_ge n l.length with h' | h' <;> simp [h'], fun _ => rfl⟩
    ⟨by simp, rfl, rfl, fun i o t _ _ _ hl => by
      exfalso; rcases Nat.lt_or_ge i l.length with h' | h' <;> simp [h'] at hl, fun t _ => rfl, fun t _ => by rcases Nat.lt_or_ge t l.length with h' | h' <;> simp [h']⟩
    (fun k o _ hl => by exfalso; rcases Nat.lt_or_ge k l.length with h' | h' <;> simp [h'] at hl)
    (by simp [out])
  · exact key
  · have hk' : k < n := by omega
    have := hvS st k o hk' ho
    rw [List.take_take, Nat.min_eq_left (Nat.le_of_lt hk')] at this
    have e1 : (vs ++ [mk st]).take k = vs.take k := List.take_append_of_le_length (by omega)
    have e2 : (vs ++ [mk st]).getD k undef = vs.getD k undef := by
      simp only [List.getD_eq_getElem?_getD]; rw [List.getElem?_append_left (by omega)]
    rw [e1, e2]
    exact this
  · obtain rfl : o = oA := Option.some.inj ((show l[n]? = some o by simpa using ho).symm.trans hoA)
    refine ⟨hg, fun b w' hC => ?_⟩
    obtain ⟨k, rfl⟩ := hC
    refine ⟨k.world.heap.size, _, ?_, ⟨⟨k.world.alloc (.cells zs.toArray t), k.below.alloc k.below.size _, fun x hx => ?_⟩, rfl⟩⟩
    · rw [hrun, hmk]; simp [hvl]
    · cases hx
      exact ⟨Rw.new k.world zs.toArray t, k.below.size⟩
  · simp only [List.getD_eq_getElem?_getD]
    rcases Nat.lt_or_ge j n with h' | h'
    · rw [List.getElem?_append_left (by omega), List.getElem?_append_left (by omega)]
    · rw [List.getElem?_eq_none (by simp [hvl]; omega), List.getElem?_eq_none (by simp [hvl]; omega)]
  · obtain ⟨k, rfl⟩ := hC
    have hfin := hQ x k.world k.below (k.cell x rfl).2 (k.cell x rfl).1
    have e : puts a (l.take (n + 1)) (vs ++ [mk (some x)]) = a1.put (some tA) (.pointer (some ⟨x, 0, none⟩)) := by
      rw [List.take_add_one, hoA, ← hq]
      have : ∀ (l1 : List Oper) (v1 : List Value) (a : Act), v1.length = l1.length → puts a (l1 ++ [oA]) (v1 ++ [mk (some x)]) = (puts a l1 v1).put oA.dst (mk (some x)) := by
        intro l1
        induction l1 with
        | nil => intro v1 a hl; cases v1 <;> simp at hl; rfl
        | cons o l1 ih =>
          intro v1 a hl
          cases v1 with
          | nil => simp at hl
          | cons v v1 => exact ih v1 _ (by simpa using hl)
      have h3 := this (l.take n) vs a (by rw [hvl, hlen])
      rw [hdA] at h3
      rw [hmk] at h3 ⊢
      exact h3
    show wpList P l.toArray Q (l.toArray.toList.drop (n + 1)) (puts a (l.toArray.toList.take (n + 1)) (vs ++ [mk (some x)])) k.world
    rw [e]
    exact hfin
end
end Go.Calm
