/-
  Cuts of a slice of bytes: what a piece of it reads as. No program is in sight.
-/
import Derived.Test.YtpbahoapjkmcjaaDoorBytes
import Derived.Laws.Slices
namespace Go.Calm
open RowKit Sha
def cutAt (p : Option Addr) (c a : Nat) : Option Addr := if c = a then p else p.map (·.add a)
theorem cutAt_block {p : Option Addr} {c a : Nat} : ∀ ad, cutAt p c a = some ad → ∃ ad', p = some ad' ∧ ad.block = ad'.block := by
  intro ad h
  unfold cutAt at h
  split at h
  · exact ⟨ad, h, rfl⟩
  · rw [Option.map_eq_some_iff] at h
    obtain ⟨ad', h1, rfl⟩ := h
    refine ⟨ad', h1, ?_⟩
    unfold Addr.add; split <;> rfl
theorem BytesOf.cut_at {w : World} {p : Option Addr} {n c : Nat} {l : List UInt8} (h : BytesOf w p n c l) {a k : Nat} (hk : a + k ≤ n) : BytesOf w (cutAt p c a) k (c - a) ((l.drop a).take k) := by
  have hl := h.len
  have hc := h.le
  refine ⟨by simp; omega, by omega, by have := h.max; omega, fun hp => ?_, fun ad had j hj => ?_⟩
  · have : p = none := by
      unfold cutAt at hp
      split at hp
      · exact hp
      · simpa using hp
    obtain ⟨h1, h2⟩ := h.nil this
    omega
  · cases p with
    | none => obtain ⟨h1, h2⟩ := h.nil rfl; omega
    | some ad' =>
      obtain ⟨b, o, rfl⟩ := h.plain (by omega)
      have := h.cell (j := a + j) (by omega)
      have e : cutAt (some ⟨b, o, none⟩) c a = some ⟨b, o + a, none⟩ := by
        unfold cutAt
        rw [if_neg (by omega)]
        simp [add_plain]
      rw [e] at had
      simp at had; subst had
      rw [add_plain, Nat.add_assoc, this]
      simp [List.getD_eq_getElem?_getD, hj, List.getElem?_drop]
section
variable {P : Program} {t e : TypeId} (ht : P.underlying t = some (.slice e)) (hs : (P.info? e).map (fun i => (i.zero, i.size, i.bytes)) = some (some (.int .u8 0), 1, 1))
include ht
theorem elem_of : P.elem t = e := by simp [Program.elem, ht]
include hs
theorem run_cut (w : World) (p : Option Addr) (n c a k : Nat) (hc : a + k ≤ c) (hi : Int) (hhi : hi = (a : Int) + (k : Int)) :
    (Instr.slice t (.slice p n c) (some (.int .i64 a)) (some (.int .i64 hi)) none).run P w = .ok (.slice (cutAt p c a) k (c - a)) w := by
  subst hhi
  obtain ⟨i0, hi0, hz0, hz1, hz2⟩ := info_parts hs
  rw [run_slice_lh w t p n c (by rw [elem_of ht]; exact ht) _ _ _ _ (by omega) (by omega) (by omega)]
  have e1 : ((a : Int) + (k : Int)).toNat = a + k := by omega
  simp [elem_of ht, sizeOf, typeInfo, hi0, hz1, sliced, cutAt, e1, Result.andThen]
theorem run_upto (w : World) (p : Option Addr) (n c k : Nat) (hc : k ≤ c) :
    (Instr.slice t (.slice p n c) none (some (.int .i64 k)) none).run P w = .ok (.slice (cutAt p c 0) k c) w := by
  obtain ⟨i0, hi0, hz0, hz1, hz2⟩ := info_parts hs
  rw [run_slice_h w t p n c (by rw [elem_of ht]; exact ht) _ _ (by omega) (by omega)]
  simp [elem_of ht, sizeOf, typeInfo, hi0, hz1, sliced, cutAt, Result.andThen]
theorem run_from (w : World) (p : Option Addr) (n c a : Nat) (hc : a ≤ n) :
    (Instr.slice t (.slice p n c) (some (.int .i64 a)) none none).run P w = .ok (.slice (cutAt p c a) (n - a) (c - a)) w := by
  obtain ⟨i0, hi0, hz0, hz1, hz2⟩ := info_parts hs
  rw [run_slice_l w t p n c (by rw [elem_of ht]; exact ht) _ _ (by omega) (by omega)]
  simp [elem_of ht, sizeOf, typeInfo, hi0, hz1, sliced, cutAt, Result.andThen]
end
/-- The slice (address, length, capacity) reads as the numbers l. -/
structure IntsOf (w : World) (p : Option Addr) (n c : Nat) (l : List Int) : Prop where
  len : l.length = n
  le : n ≤ c
  max : c ≤ maxLen
  nil : p = none → n = 0 ∧ c = 0
  at_ : ∀ ad, p = some ad → ∀ j, j < n → w.cell? (ad.add j) = some (.int .i64 (l.getD j 0))
section
variable {R : Nat → Prop} {w w' : World} {p : Option Addr} {n c : Nat} {l : List Int}
theorem IntsOf.turns (h : IntsOf w p n c l) (k : Turns R w w') (hr : ∀ ad, p = some ad → 0 < n → ¬ R ad.block) : IntsOf w' p n c l := by
  refine ⟨h.len, h.le, h.max, h.nil, fun ad had j hj => ?_⟩
  have h1 := h.at_ ad had j hj
  have hb := World.block_lt_of_cell? w _ h1
  have ha : (ad.add j).block = ad.block := by unfold Addr.add; split <;> rfl
  rw [World.cell?_of_block (w := w) (a := ad.add j) (k.block _ hb (by rw [ha]; exact hr ad had (by omega)))]
  exact h1
theorem IntsOf.plain (h : IntsOf w p n c l) (hn : 0 < n) : ∃ b o, p = some ⟨b, o, none⟩ := by
  cases p with
  | none => have := (h.nil rfl).1; omega
  | some ad =>
    have h1 := h.at_ ad rfl 0 hn
    obtain ⟨b, o, sp⟩ := ad
    have : sp = none := by simpa [Addr.add] using World.cell?_spot h1
    subst this; exact ⟨b, o, rfl⟩
theorem IntsOf.cell {b o : Nat} (h : IntsOf w (some ⟨b, o, none⟩) n c l) {j : Nat} (hj : j < n) : w.cell? ⟨b, o + j, none⟩ = some (.int .i64 (l.getD j 0)) := by
  rw [← add_plain]; exact h.at_ _ rfl j hj
end
end Go.Calm
