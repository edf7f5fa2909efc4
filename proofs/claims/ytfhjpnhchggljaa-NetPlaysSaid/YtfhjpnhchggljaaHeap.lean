/-
  Rows of cells that are known whole, and what a piece of code may turn: lemmas for walks. No program is in sight.
-/
import Derived.WalkKit
import Derived.Laws.CopyOwn
import Derived.Laws.AppendOwnNone
import Derived.Deep.Draws
namespace Go.Calm
open RowKit

theorem hid {p : Prop} (h : p) : Hid p := h

/-- Block g is a row of just these cells, none of them frozen. (A plain definition: the walk leaves it shut.) -/
def Rw (w : World) (g : Nat) (xs : List Value) (t : TypeId) : Prop := w.heap[g]? = some (.cells xs.toArray t (0, 0))

/-- Of what w holds only the blocks that R names may have turned. -/
structure Turns (R : Nat → Prop) (w w' : World) : Prop where
  os : w'.os = w.os
  tape : w'.tape = w.tape
  output : w'.output = w.output
  size : w.heap.size ≤ w'.heap.size
  block : ∀ k, k < w.heap.size → ¬ R k → w'.heap[k]? = w.heap[k]?

section
variable {R S : Nat → Prop} {w w' w'' : World} {g i : Nat} {xs ys : List Value} {t : TypeId} {v : Value}
theorem Turns.refl (R : Nat → Prop) (w : World) : Turns R w w := ⟨rfl, rfl, rfl, Nat.le_refl _, fun _ _ _ => rfl⟩
theorem Turns.trans (h : Turns R w w') (k : Turns R w' w'') : Turns R w w'' :=
  ⟨k.os.trans h.os, k.tape.trans h.tape, k.output.trans h.output, Nat.le_trans h.size k.size, fun b hb hr => (k.block b (Nat.lt_of_lt_of_le hb h.size) hr).trans (h.block b hb hr)⟩
/-- A second step that turns blocks which the first one has made. -/
theorem Turns.step (h : Turns R w w') (k : Turns S w' w'') (hs : ∀ b, b < w.heap.size → S b → R b) : Turns R w w'' :=
  ⟨k.os.trans h.os, k.tape.trans h.tape, k.output.trans h.output, Nat.le_trans h.size k.size, fun b hb hr => (k.block b (Nat.lt_of_lt_of_le hb h.size) (fun hS => hr (hs b hb hS))).trans (h.block b hb hr)⟩
theorem Turns.mono (h : Turns S w w') (hs : ∀ b, b < w.heap.size → S b → R b) : Turns R w w' := (Turns.refl R w).step h hs
theorem Turns.drew (h : Turns R w w') : Turns R w w'.drew := ⟨h.os, h.tape, h.output, h.size, h.block⟩
theorem Turns.drewN (h : Turns R w w') (n : Nat) : Turns R w (w'.drewN n) := ⟨h.os, h.tape, h.output, h.size, h.block⟩
theorem Turns.alloc (h : Turns R w w') (o : Obj) : Turns R w (w'.alloc o) :=
  h.trans ⟨rfl, rfl, rfl, by simp, fun k hk _ => heap_alloc_old _ _ hk⟩
theorem Turns.setCell (h : Turns R w w') {a : Addr} (ha : a.block < w.heap.size → R a.block) (u : Value) : Turns R w (w'.setCell a u) :=
  h.step (S := fun b => b = a.block) ⟨rfl, rfl, rfl, by simp [World.setCell], fun k _ hk => Below.heap_setCell _ _ _ _ hk⟩ (fun b hb e => by subst e; exact ha hb)
theorem Turns.of_below (h : Below w.heap.size w w') : Turns R w w' := ⟨h.os, h.tape, h.output, h.size, fun k hk _ => h.block k hk⟩
theorem Turns.below (h : Turns R w w') (hr : ∀ b, b < w.heap.size → ¬ R b) : Below w.heap.size w w' := ⟨h.os, h.tape, h.output, h.size, fun k hk => h.block k hk (hr k hk)⟩
theorem Turns.of_grown {row : Option Nat} (h : w.grownBy w' row) (hr : ∀ k, row = some k → k < w.heap.size → R k) : Turns R w w' :=
  ⟨h.os, h.tape, h.output, h.size, fun k hk hn => h.block k hk (fun e => hn (hr k e.symm hk))⟩
theorem Turns.cell (h : Turns R w w') {b o : Nat} (hb : b < w.heap.size) (hr : ¬ R b) : w'.cell? ⟨b, o, none⟩ = w.cell? ⟨b, o, none⟩ := World.cell?_of_block (h.block b hb hr)
theorem Turns.frozen (h : Turns R w w') {b o : Nat} (hb : b < w.heap.size) (hr : ¬ R b) : w'.frozen? ⟨b, o, none⟩ = w.frozen? ⟨b, o, none⟩ := World.frozen?_of_block (h.block b hb hr)

theorem Rw.lt (h : Rw w g xs t) : g < w.heap.size := (Array.getElem?_eq_some_iff.1 h).1
theorem Rw.cell (h : Rw w g xs t) (hi : xs[i]? = some v) : w.cell? ⟨g, i, none⟩ = some v := by
  rw [cell_of_row w g i _ t _ h]; simpa using hi
theorem Rw.free (h : Rw w g xs t) (i : Nat) : w.frozen? ⟨g, i, none⟩ = false := by simp [World.frozen?, show w.heap[g]? = _ from h]
theorem Rw.set (h : Rw w g xs t) (i : Nat) (v : Value) : Rw (w.setCell ⟨g, i, none⟩ v) g (xs.set i v) t := by
  rw [setCell_eq_setRow w g i _ t _ v h]
  have := setRow_heap w g _ (xs.toArray.setIfInBounds i v) t _ h
  simpa [Rw] using this
theorem Rw.set_other (h : Rw w g xs t) {a : Addr} (ha : g ≠ a.block) (v : Value) : Rw (w.setCell a v) g xs t := by
  unfold Rw; rw [Below.heap_setCell _ _ _ _ ha]; exact h
theorem Rw.alloc (h : Rw w g xs t) (o : Obj) : Rw (w.alloc o) g xs t := by unfold Rw; rw [heap_alloc_old _ _ h.lt]; exact h
theorem Rw.new (w : World) (a : Array Value) (t : TypeId) : Rw (w.alloc (.cells a t)) w.heap.size a.toList t := by unfold Rw; rw [heap_alloc_new]
theorem Rw.drew (h : Rw w g xs t) : Rw w.drew g xs t := h
theorem Rw.drewN (h : Rw w g xs t) (n : Nat) : Rw (w.drewN n) g xs t := h
theorem Rw.turns (h : Rw w g xs t) (k : Turns R w w') (hr : ¬ R g) : Rw w' g xs t := (k.block g h.lt hr).trans h
theorem Rw.below (h : Rw w g xs t) (k : Below w.heap.size w w') : Rw w' g xs t := (k.block g h.lt).trans h
theorem Rw.inj {u : TypeId} (h : Rw w g xs t) (k : Rw w g ys u) : xs = ys := by
  have := h.symm.trans k
  simp at this
  exact this.1
end

/-- 'copy' into a row that is known whole; the world behind it is a variable. -/
theorem wpList_copy_rw {P : Program} {w : World} {ops : Array Oper} {rest : List Oper} {o : Oper} {a : Act} {Q : Exit → Act → World → Prop} (hgd : o.guard = none) (d s : Operand) (dT sT : TypeId)
    (ho : o.op = .call { callee := .builtin .copy, args := #[d, s], argTypes := #[dT, sT] }) (elem : TypeId) (hu : P.underlying dT = some (.slice elem)) (hsz : (P.info? elem).map (·.size) = some 1)
    (g off dLen dCap : Nat) (ad : Addr) (sLen sCap : Nat) (hd : a.eval d = .slice (some ⟨g, off, none⟩) dLen dCap) (hs : a.eval s = .slice (some ad) sLen sCap)
    (cur : List Value) (t : TypeId) (hg : Rw w g cur t) (cs : List Value) (hn : cs.length = Nat.min sLen dLen)
    (hsrc : ∀ j v, cs[j]? = some v → w.cell? (ad.add j) = some v) (hfit : off + cs.length ≤ cur.length) (h1 : ∀ v ∈ cs, v.oneCell' = true) (new : List Value) (hnew : cur.take off ++ (cs ++ cur.drop (off + cs.length)) = new)
    (h : ∀ w', Rw w' g new t → Turns (· = g) w w' → wpList P ops Q rest (a.put o.dst (goInt cs.length)) w') : wpList P ops Q (o :: rest) a w := by
  refine wpList_copy_own hgd d s dT sT ho elem hu hsz g off dLen dCap ad sLen sCap hd hs cur.toArray t hg cs hn hsrc (by simpa using hfit) h1 (h _ ?_ ?_)
  · have := setRow_heap w g _ (cur.take off ++ (cs ++ cur.drop (off + cs.length))).toArray t _ hg
    subst hnew
    simpa [Rw] using this
  · exact ⟨rfl, rfl, rfl, by simp [World.setRow], fun k _ hk => setRow_other w g k _ hk⟩

/-- 'append' of whatever slice is there, nil too, to a row of the call's own. -/
theorem wpList_append_any {P : Program} {w : World} {ops : Array Oper} {rest : List Oper} {o : Oper} {a : Act} {Q : Exit → Act → World → Prop} (hgd : o.guard = none) (s x : Operand) (t : TypeId)
    (ho : o.op = .call { callee := .builtin .append, args := #[s, x], argTypes := #[t, t] })
    (base : Nat) (e : TypeId) (i : TypeInfo) (z : Value) (size bytes : Nat) (ht : P.underlying t = some (.slice e)) (hi : P.info? e = some i) (hz : i.zero = some z)
    (hsize : i.size = size) (hby : i.bytes = bytes) (hzs : z.cells.size = size) (hsz : 0 < size)
    (v : Value) (n : Nat) (xs : List Value) (hs : a.eval s = v) (hown : w.ownsRow base e size v n xs)
    (p : Option Addr) (m c : Nat) (news : List Value) (hx : a.eval x = .slice p m c) (hl : news.length = m * size) (hnil : p = none → m = 0 ∧ c = 0)
    (hnews : ∀ ad, p = some ad → ∀ j u, news[j]? = some u → w.cell? (ad.add j) = some u) (h1 : ∀ u ∈ news, u.oneCell' = true)
    (h63 : n + m ≤ maxLen) (hbytes : (n + m) * bytes ≤ 140737488355328) (hbase : base ≤ w.heap.size)
    (h : ∀ v' w', w'.ownsRow base e size v' (n + m) (xs ++ news) → w.grownBy w' v.ownBlock → wpList P ops Q rest (a.put o.dst v') w') : wpList P ops Q (o :: rest) a w := by
  cases p with
  | some ad => exact wpList_append_own w hgd s x t ho base e i z size bytes ht hi hz hsize hby hzs hsz v n xs hs hown ad m c news hx hl (hnews ad rfl) h1 h63 hbytes hbase fun v' w' h2 h3 _ => h v' w' h2 h3
  | none =>
    obtain ⟨rfl, rfl⟩ := hnil rfl
    have : news = [] := List.eq_nil_of_length_eq_zero (by simpa using hl)
    subst this
    refine wpList_append_own_none hgd s x t ho base e i size ht hi v n xs hs hown hx (h v w (by simpa using hown) ⟨rfl, rfl, rfl, Nat.le_refl _, fun _ _ _ => rfl⟩)

/-- A whole array read out of its row, and stored into it. -/
theorem wpList_load_rw {P : Program} {ops : Array Oper} {rest : List Oper} {o : Oper} {a : Act} {w : World} {Q : Exit → Act → World → Prop} (hgd : o.guard = none) (ty : TypeId) (x : Operand) (ho : o.op = .load ty x)
    (g : Nat) (hx : a.eval x = .pointer (some ⟨g, 0, none⟩)) (t : TypeId) (xs : List Value) (d : TypeDesc) (hg : Rw w g xs t)
    (hu : P.underlying ty = some d) (hd : (match d with | .struct _ | .array _ _ => true | _ => false) = true) (hi : (P.info? ty).map (·.size) = some xs.length)
    (h : wpList P ops Q rest (a.put o.dst (.agg xs.toArray)) w) : wpList P ops Q (o :: rest) a w :=
  wpList_load_row hgd ty x ho g hx t xs.toArray (0, 0) d hg hu hd (by simpa using hi) h
theorem wpList_store_rw {P : Program} {ops : Array Oper} {rest : List Oper} {o : Oper} {a : Act} {w : World} {Q : Exit → Act → World → Prop} (hgd : o.guard = none) (ty : TypeId) (x y : Operand) (ho : o.op = .store ty x y)
    (g : Nat) (ys : List Value) (hx : a.eval x = .pointer (some ⟨g, 0, none⟩)) (hy : a.eval y = .agg ys.toArray)
    (t : TypeId) (old : List Value) (hg : Rw w g old t) (hi : (P.info? ty).map (·.size) = some ys.length) (hold : old.length = ys.length) (h1 : ∀ u ∈ ys, u.oneCell' = true)
    (h : ∀ w', Rw w' g ys t → Turns (· = g) w w' → wpList P ops Q rest (a.put o.dst undef) w') : wpList P ops Q (o :: rest) a w := by
  refine wpList_store_row hgd ty x y ho g ys.toArray hx hy t old.toArray hg (by simpa using hi) (by simpa using hold) ?_ (h _ ?_ ?_)
  · rw [Array.all_eq_true_iff_forall_mem]; intro u hu; exact h1 u (by simpa using hu)
  · exact setRow_heap w g _ ys.toArray t _ hg
  · exact ⟨rfl, rfl, rfl, by simp [World.setRow], fun k _ hk => setRow_other w g k _ hk⟩
theorem results_cell_rw {P : Program} {fn : Func} {p : Tmp} {ty : TypeId} (h : fn.results = #[.cell p ty]) {tmps : Array Value} {w : World} {g : Nat} (hp : tmps.getD p undef = .pointer (some ⟨g, 0, none⟩)) {xs : List Value} {t : TypeId} (hg : Rw w g xs t)
    {n : Nat} {e : TypeId} (hu : P.underlying ty = some (.array n e)) (hi : (P.info? ty).map (·.size) = some xs.length) : (results fn tmps).run P w = .ok (.agg xs.toArray) w := by
  have hl := run_loadVar_row (P := P) w g t ty xs.toArray (0, 0) _ hg hu rfl (by simpa using hi)
  have hp' : tmps[p]?.getD undef = .pointer (some ⟨g, 0, none⟩) := by rw [← hp]; simp
  simp only [results, h]
  simp [hp', asAddr, hl]
end Go.Calm
