/-
  Slices of bytes, as a callee reads them. No program is in sight.
-/
import Derived.Test.YtfhjpnhchggljaaHeap
import Derived.Test.YtfhjpnhchggljaaWords
import Derived.Laws.BytesArg
namespace Go.Calm
open RowKit Sha
theorem add_plain (b o j : Nat) : (⟨b, o, none⟩ : Addr).add j = ⟨b, o + j, none⟩ := by unfold Addr.add; split <;> simp_all

/-- The slice (address, length, capacity) reads as the bytes l. -/
structure BytesOf (w : World) (p : Option Addr) (n c : Nat) (l : List UInt8) : Prop where
  len : l.length = n
  le : n ≤ c
  max : c ≤ maxLen
  nil : p = none → n = 0 ∧ c = 0
  at_ : ∀ ad, p = some ad → ∀ j, j < n → w.cell? (ad.add j) = some (bv (l.getD j 0))

section
variable {R : Nat → Prop} {w w' : World} {p : Option Addr} {n c : Nat} {l : List UInt8}
theorem BytesOf.news (h : BytesOf w p n c l) : ∀ ad, p = some ad → ∀ j u, (l.map bv)[j]? = some u → w.cell? (ad.add j) = some u := by
  intro ad had j u hu
  rw [List.getElem?_map, Option.map_eq_some_iff] at hu
  obtain ⟨x, hx, rfl⟩ := hu
  have hj : j < l.length := (List.getElem?_eq_some_iff.1 hx).1
  rw [h.at_ ad had j (by rw [← h.len]; exact hj)]
  simp [List.getD_eq_getElem?_getD, hx]
theorem BytesOf.one (l : List UInt8) : ∀ u ∈ l.map bv, u.oneCell' = true := by
  intro u hu; obtain ⟨x, _, rfl⟩ := List.mem_map.1 hu; rfl
theorem BytesOf.turns (h : BytesOf w p n c l) (k : Turns R w w') (hr : ∀ ad, p = some ad → 0 < n → ¬ R ad.block) : BytesOf w' p n c l := by
  refine ⟨h.len, h.le, h.max, h.nil, fun ad had j hj => ?_⟩
  have h1 := h.at_ ad had j hj
  have hb := World.block_lt_of_cell? w _ h1
  have ha : (ad.add j).block = ad.block := by unfold Addr.add; split <;> rfl
  rw [World.cell?_of_block (w := w) (a := ad.add j) (k.block _ hb (by rw [ha]; exact hr ad had (by omega)))]
  exact h1
theorem BytesOf.below (h : BytesOf w p n c l) (k : Below w.heap.size w w') : BytesOf w' p n c l := h.turns (Turns.of_below (R := fun _ => False) k) (fun _ _ _ h => h)
theorem BytesOf.alloc (h : BytesOf w p n c l) (o : Obj) : BytesOf (w.alloc o) p n c l := h.turns ((Turns.refl (fun _ => False) w).alloc o) (fun _ _ _ h => h)
theorem BytesOf.drewN (h : BytesOf w p n c l) (k : Nat) : BytesOf (w.drewN k) p n c l := ⟨h.len, h.le, h.max, h.nil, h.at_⟩
/-- Where there is a byte the address is plain. -/
theorem BytesOf.plain {ad : Addr} (h : BytesOf w (some ad) n c l) (hn : 0 < n) : ∃ b o, ad = ⟨b, o, none⟩ := by
  have h1 := h.at_ ad rfl 0 hn
  obtain ⟨b, o, sp⟩ := ad
  have : sp = none := by simpa [Addr.add] using World.cell?_spot h1
  subst this; exact ⟨b, o, rfl⟩
theorem BytesOf.cell {b o : Nat} (h : BytesOf w (some ⟨b, o, none⟩) n c l) {j : Nat} (hj : j < n) : w.cell? ⟨b, o + j, none⟩ = some (bv (l.getD j 0)) := by
  rw [← add_plain]; exact h.at_ _ rfl j hj
/-- A row of the call's own reads as its bytes. -/
theorem BytesOf.own {base : Nat} {v : Value} (h : w.ownsRow base 5 1 v n (l.map bv)) : ∃ p c, v = .slice p n c ∧ BytesOf w p n c l ∧ (∀ ad, p = some ad → ad.spot = none ∧ ad.off = 0 ∧ base ≤ ad.block ∧ v.ownBlock = some ad.block) := by
  have hlen : l.length = n := by simpa using h.1
  rcases h.2 with ⟨rfl, rfl⟩ | ⟨g, cap, cur, rfl, hb, hg, hnc, hcm, _, _⟩
  · exact ⟨none, 0, rfl, ⟨hlen, Nat.le_refl _, Nat.zero_le _, fun _ => ⟨rfl, rfl⟩, fun ad had => by simp at had⟩, fun ad had => by simp at had⟩
  · refine ⟨some ⟨g, 0, none⟩, cap, rfl, ⟨hlen, hnc, hcm, fun h => by simp at h, fun ad had j hj => ?_⟩, fun ad had => by simp at had; subst had; exact ⟨rfl, rfl, hb, rfl⟩⟩
    simp at had; subst had
    have := h.cells (g := g) rfl j (bv (l.getD j 0)) (by
      have hj' : j < l.length := by omega
      simp [hj'])
    exact this
/-- Cut at the front. -/
theorem BytesOf.drop {b o : Nat} (h : BytesOf w (some ⟨b, o, none⟩) n c l) {k : Nat} (hk : k ≤ n) : BytesOf w (some ⟨b, o + k, none⟩) (n - k) (c - k) (l.drop k) := by
  refine ⟨by simp [h.len], by have := h.le; omega, by have := h.max; omega, fun h => by simp at h, fun ad had j hj => ?_⟩
  simp at had; subst had
  have := h.cell (j := k + j) (by omega)
  rw [add_plain, Nat.add_assoc, this]
  simp [List.getD_eq_getElem?_getD]
end
theorem BytesOf.str {P : Program} {w : World} {p : Option Addr} {n c : Nat} {l : List UInt8} (h : BytesOf w p n c l) {src dst e : TypeId} (hs : P.underlying src = some (.slice e)) (he : P.underlying e = some (.int .u8)) (hd : P.underlying dst = some .string) :
    (convert src dst (.slice p n c)).run P w = .ok (.string ⟨l.toArray⟩) w := by
  cases p with
  | none =>
    obtain ⟨rfl, rfl⟩ := h.nil rfl
    have : l = [] := List.eq_nil_of_length_eq_zero h.len
    subst this
    exact run_convert_bytes_nil w src e hs he 0 0 dst hd
  | some ad =>
    by_cases hn : n = 0
    · subst hn
      have : l = [] := List.eq_nil_of_length_eq_zero h.len
      subst this
      rw [run_convert_bytes_string w src dst e _ 0 c hs he hd]
      simp [Conv.bytesToString, loadCells, loadCellsFrom]
      rfl
    · obtain ⟨b, o, rfl⟩ := h.plain (by omega)
      have := run_convert_bytes_arg w src e hs he b o n c (l.map fun x => B8 x) (by simp [h.len]) (fun i hi => by
        rw [h.cell hi]
        have : i < l.length := by rw [h.len]; exact hi
        simp [this, bv]) dst hd
      rw [this]
      congr 2
      have e : (l.map fun x => UInt8.ofNat (B8 x).toNat) = l := by
        conv => rhs; rw [← List.map_id l]
        apply List.map_congr_left
        intro x _
        simp [B8]
      simp only [strOfNums, List.map_map]
      congr 1
      exact congrArg List.toArray e
end Go.Calm
