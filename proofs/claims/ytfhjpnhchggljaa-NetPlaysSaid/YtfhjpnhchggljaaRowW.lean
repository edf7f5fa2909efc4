/-
  Rows with spare room, behind a receiver's field: 'append' onto them. No program is in sight.
-/
import Derived.Test.YtfhjpnhchggljaaBytes
import Derived.Test.YtfhjpnhchggljaaCalmL
import Derived.ArgAppend
import Derived.Laws.IdiomCopy
namespace Go.Calm
open RowKit
/-- The block of an address, where there is one. -/
def rowBlk (p : Option Addr) (k : Nat) : Prop := ∃ ad, p = some ad ∧ k = ad.block
theorem rowBlk_none {k : Nat} : ¬ rowBlk none k := fun ⟨_, h, _⟩ => by cases h
theorem rowBlk_some {g o k : Nat} : rowBlk (some ⟨g, o, none⟩) k ↔ k = g := ⟨fun ⟨_, h, e⟩ => by cases h; exact e, fun e => ⟨_, rfl, e⟩⟩
/-- A slice (address, length, capacity) at its block's head, of elements of s cells, reads as the cells cs; the cells of its spare room are there, and not frozen. Its block is one of F's, and not b. -/
structure RowOf (w : World) (F : Nat → Prop) (b s : Nat) (cs : List Value) (p : Option Addr) (n c : Nat) : Prop where
  len : cs.length = n * s
  le : n ≤ c
  max : c ≤ maxLen
  nil : p = none → n = 0 ∧ c = 0
  at_ : ∀ ad, p = some ad → ∃ g, ad = ⟨g, 0, none⟩ ∧ F g ∧ g ≠ b ∧ g < w.heap.size ∧ (∀ j u, cs[j]? = some u → w.cell? ⟨g, j, none⟩ = some u) ∧
    (∀ j, j < c * s → (w.cell? ⟨g, j, none⟩).isSome = true ∧ w.frozen? ⟨g, j, none⟩ = false)
section
variable {w w' : World} {F F' R : Nat → Prop} {b s n c : Nat} {cs : List Value} {p : Option Addr}
theorem RowOf.none (w : World) (F : Nat → Prop) (b s : Nat) : RowOf w F b s [] none 0 0 := ⟨by simp, Nat.le_refl _, Nat.zero_le _, fun _ => ⟨rfl, rfl⟩, fun _ h => by cases h⟩
theorem RowOf.mono (h : RowOf w F b s cs p n c) (hF : ∀ k, k < w.heap.size → F k → F' k) : RowOf w F' b s cs p n c :=
  ⟨h.len, h.le, h.max, h.nil, fun ad ha => by obtain ⟨g, h1, h2, h3, h4, h5⟩ := h.at_ ad ha; exact ⟨g, h1, hF g h4 h2, h3, h4, h5⟩⟩
theorem RowOf.turns (h : RowOf w F b s cs p n c) (k : Turns R w w') (hr : ∀ g, rowBlk p g → ¬ R g) : RowOf w' F b s cs p n c :=
  ⟨h.len, h.le, h.max, h.nil, fun ad ha => by
    obtain ⟨g, rfl, h2, h3, h4, h5, h6⟩ := h.at_ ad ha
    have hg := hr g ⟨_, ha, rfl⟩
    exact ⟨g, rfl, h2, h3, Nat.lt_of_lt_of_le h4 k.size, fun j u hu => (k.cell h4 hg).trans (h5 j u hu), fun j h2 => by rw [k.cell h4 hg, k.frozen h4 hg]; exact h6 j h2⟩⟩
theorem RowOf.blk (h : RowOf w F b s cs p n c) {k : Nat} (hk : rowBlk p k) : F k ∧ k ≠ b ∧ k < w.heap.size := by
  obtain ⟨ad, ha, rfl⟩ := hk
  obtain ⟨g, rfl, h2, h3, h4, _⟩ := h.at_ ad ha
  exact ⟨h2, h3, h4⟩
/-- Cut behind, the capacity too. -/
theorem RowOf.take (h : RowOf w F b s cs p n c) {k : Nat} (hk : k ≤ n) : RowOf w F b s (cs.take (k * s)) p k k := by
  refine ⟨by rw [List.length_take, h.len]; exact Nat.min_eq_left (Nat.mul_le_mul_right s hk), Nat.le_refl _, by have := h.max; have := h.le; omega, fun e => ?_, fun ad ha => ?_⟩
  · have := (h.nil e).1; omega
  · obtain ⟨g, rfl, h2, h3, h4, h5, h6⟩ := h.at_ ad ha
    exact ⟨g, rfl, h2, h3, h4, fun j u hu => h5 j u (by rw [List.getElem?_take] at hu; split at hu <;> simp_all), fun j h2 => h6 j (Nat.lt_of_lt_of_le h2 (Nat.mul_le_mul_right s (by have := h.le; omega)))⟩
/-- Cut behind, the capacity as it was. -/
theorem RowOf.cut (h : RowOf w F b s cs p n c) {k : Nat} (hk : k ≤ n) : RowOf w F b s (cs.take (k * s)) p k c := by
  refine ⟨by rw [List.length_take, h.len]; exact Nat.min_eq_left (Nat.mul_le_mul_right s hk), by have := h.le; omega, h.max, fun e => ?_, fun ad ha => ?_⟩
  · have := h.nil e; omega
  · obtain ⟨g, rfl, h2, h3, h4, h5, h6⟩ := h.at_ ad ha
    exact ⟨g, rfl, h2, h3, h4, fun j u hu => h5 j u (by rw [List.getElem?_take] at hu; split at hu <;> simp_all), h6⟩
/-- A row of the call's own. -/
theorem RowOf.own {base : Nat} {e : TypeId} {v : Value} (h : w.ownsRow base e s v n cs) (hb : b < base) (hF : ∀ k, base ≤ k → F k) : ∃ p c, v = .slice p n c ∧ RowOf w F b s cs p n c ∧ ∀ k, rowBlk p k → base ≤ k := by
  rcases h.2 with ⟨rfl, rfl⟩ | ⟨g, cap, cur, rfl, hbg, hg, hnc, hcm, hsz, htk⟩
  · refine ⟨Option.none, 0, rfl, ⟨h.1, Nat.le_refl _, Nat.zero_le _, fun _ => ⟨rfl, rfl⟩, fun _ h => by cases h⟩, fun k hk => (rowBlk_none hk).elim⟩
  · refine ⟨some ⟨g, 0, Option.none⟩, cap, rfl, ⟨h.1, hnc, hcm, fun h => by simp at h, fun ad ha => ?_⟩, fun k hk => by rw [rowBlk_some] at hk; omega⟩
    simp at ha; subst ha
    refine ⟨g, rfl, hF g hbg, by omega, (Array.getElem?_eq_some_iff.1 hg).1, fun j u hu => by have := h.cells (g := g) rfl j u hu; rwa [add_plain, Nat.zero_add] at this, fun j h2 => ⟨?_, by simp [World.frozen?, hg]⟩⟩
    rw [cell_of_row w g j cur e _ hg]
    have : j < cur.size := by rw [hsz]; exact h2
    simp [this]
end
theorem Turns.setCells {R : Nat → Prop} {w : World} (g : Nat) : ∀ (vs : List Value) (o : Nat) (w' : World), Turns R w w' → (g < w.heap.size → R g) → Turns R w (w'.setCells g o vs)
  | [], _, _, h, _ => h
  | v :: r, o, _, h, hg => by rw [World.setCells]; exact Turns.setCells g r (o + 1) _ (h.setCell (a := ⟨g, o, none⟩) hg v) hg
/-- 'append' onto such a row: it stays one, of the same block or of a new one. -/
theorem wpList_append_row {P : Program} {w : World} {ops : Array Oper} {rest : List Oper} {o : Oper} {a : Act} {Q : Exit → Act → World → Prop} (hgd : o.guard = none) (s x : Operand) (t : TypeId)
    (ho : o.op = .call { callee := .builtin .append, args := #[s, x], argTypes := #[t, t] })
    (e : TypeId) (i : TypeInfo) (z : Value) (size bytes : Nat) (ht : P.underlying t = some (.slice e)) (hi : P.info? e = some i) (hz : i.zero = some z)
    (hsize : i.size = size) (hby : i.bytes = bytes) (hzs : z.cells.size = size) (hsz : 0 < size)
    (F F' : Nat → Prop) (b n c : Nat) (p : Option Addr) (cs : List Value) (hs : a.eval s = .slice p n c) (hr : RowOf w F b size cs p n c) (hF : ∀ k, k < w.heap.size → F k → F' k) (hF' : ∀ k, w.heap.size ≤ k → F' k) (hb : b < w.heap.size)
    (ad : Addr) (m c2 : Nat) (news : List Value) (hx : a.eval x = .slice (some ad) m c2) (hl : news.length = m * size)
    (hnews : ∀ j u, news[j]? = some u → w.cell? (ad.add j) = some u) (h1 : ∀ u ∈ news, u.oneCell' = true)
    (h63 : n + m ≤ maxLen) (hbytes : (n + m) * bytes ≤ 140737488355328)
    (h : ∀ p' c' w', RowOf w' F' b size (cs ++ news) p' (n + m) c' → Turns (rowBlk p) w w' → (∀ k, k < w.heap.size → rowBlk p' k → rowBlk p k) → wpList P ops Q rest (a.put o.dst (.slice p' (n + m) c')) w') :
    wpList P ops Q (o :: rest) a w := by
  have hgrow : ∀ v' w', w'.ownsRow w.heap.size e size v' (n + m) (cs ++ news) → w.grownBy w' none → wpList P ops Q rest (a.put o.dst v') w' := by
    intro v' w' h2 h3
    obtain ⟨p', c', rfl, h4, h5⟩ := RowOf.own h2 hb hF'
    exact h p' c' w' h4 (Turns.of_grown h3 (fun k hk => by cases hk)) (fun k hk hr => absurd (h5 k hr) (by omega))
  cases hp : p with
  | none =>
    subst hp
    obtain ⟨rfl, rfl⟩ := hr.nil rfl
    by_cases hm : m = 0
    · subst hm
      have : news = [] := List.eq_nil_of_length_eq_zero (by simpa using hl)
      subst this
      have hcs : cs = [] := List.eq_nil_of_length_eq_zero (by simpa using hr.len)
      subst hcs
      refine wpList_plain hgd fun K hK' => ?_
      obtain ⟨v', w', hrun, r1, r2, _⟩ := run_append_own (P := P) w w.heap.size t o.type e i z size bytes ht hi hz hsize hby hzs hsz (.slice none 0 0) 0 [] (World.ownsRow_nil w _ e size) ad 0 c2 [] (by simp) (fun j u hu => by simp at hu) (fun u hu => by simp at hu) h63 hbytes (Nat.le_refl _)
      unfold Oper.wp
      simp [execOp, ho, resolve, invoke, builtin, hs, hx, hrun, Result.andThen]
      exact hK' _ _ (hgrow v' w' (by simpa using r1) r2)
    · exact wpList_append_grows w hgd s x t ho e i z size bytes ht hi hz hsize hby hzs hsz none 0 0 cs hs (fun _ => ⟨rfl, rfl⟩) hr.len (fun b hb => by cases hb) ad m c2 news hx hl hnews h1 (by omega) h63 hbytes hgrow
  | some a0 =>
    subst hp
    obtain ⟨g, rfl, hFg, hgb, hgs, hcell, hsp⟩ := hr.at_ a0 rfl
    refine wpList_append_arg w hgd s x t ho e i z size bytes ht hi hz hsize hby hzs hsz g 0 n c cs hs hr.len (fun j u hu => by rw [Nat.zero_add]; exact hcell j u hu) ad m c2 news hx hl hnews h1 ?_ h63 hbytes ?_ (fun _ => hgrow)
    · intro hroom j hj
      have := Nat.mul_le_mul_right size hroom
      rw [Nat.add_mul] at this
      rw [Nat.zero_add]
      exact hsp _ (by omega)
    · intro hroom
      have hms := Nat.mul_le_mul_right size hroom
      rw [Nat.add_mul] at hms
      have hlen := hr.len
      rw [Nat.zero_add]
      have hthere : ∀ j, j < news.length → (w.cell? ⟨g, n * size + j, none⟩).isSome = true := fun j hj => (hsp _ (by omega)).1
      have hT : Turns (rowBlk (some ⟨g, 0, none⟩)) w (w.setCells g (n * size) news) := Turns.setCells g news _ w (Turns.refl _ _) (fun _ => rowBlk_some.2 rfl)
      refine h _ _ _ ⟨by rw [List.length_append, hr.len, hl, Nat.add_mul], hroom, hr.max, fun h => by simp at h, fun ad' ha' => ?_⟩ hT (fun k _ hk => hk)
      simp at ha'; subst ha'
      refine ⟨g, rfl, hF g hgs hFg, hgb, Nat.lt_of_lt_of_le hgs hT.size, fun j u hu => ?_, fun j hj2 => ?_⟩
      · by_cases hj : j < n * size
        · rw [World.cell?_setCells_out g news _ w _ (fun _ _ => .inl hj)]
          refine hcell j u ?_
          rwa [List.getElem?_append_left (by omega)] at hu
        · rw [List.getElem?_append_right (by omega)] at hu
          obtain ⟨hj', rfl⟩ := List.getElem?_eq_some_iff.1 hu
          have := World.cell?_setCells_in g news (n * size) w hthere (j - cs.length) hj'
          rwa [show n * size + (j - cs.length) = j by omega] at this
      · rw [World.frozen?_setCells]
        refine ⟨?_, (hsp j hj2).2⟩
        by_cases hj : j < n * size
        · rw [World.cell?_setCells_out g news _ w _ (fun _ _ => .inl hj)]; exact (hsp j hj2).1
        by_cases hj' : j < n * size + news.length
        · have := World.cell?_setCells_in g news (n * size) w hthere (j - n * size) (by clear hl hlen; omega)
          rw [show n * size + (j - n * size) = j by omega] at this
          rw [this]; rfl
        · rw [World.cell?_setCells_out g news _ w _ (fun _ _ => .inr (Nat.le_of_not_lt hj'))]; exact (hsp j hj2).1
end Go.Calm
