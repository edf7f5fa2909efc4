/-
  Same: a net's letters against the document's.
-/
import Derived.Test.YtfhjpnhchggljaaRefW
namespace Go.Proofs.Ytfhjpnhchggljaa
open Go.RowKit Go.Sha Go.Calm
attribute [local go_sem] Oper.semAt_some
/-- A slice that reads as the document's letters. -/
structure RS (w : World) (p : Option Addr) (c : Nat) (L : List (Nat × List UInt8)) : Prop where
  le : L.length ≤ c
  max : c ≤ maxLen
  nil : p = none → L = [] ∧ c = 0
  row : ∀ ad, p = some ad → ∃ g o, ad = ⟨g, o, none⟩ ∧ g < w.heap.size ∧ ∀ j u, (rcells L)[j]? = some u → w.cell? ⟨g, o + j, none⟩ = some u
theorem RS.get {w : World} {p : Option Addr} {c : Nat} {L : List (Nat × List UInt8)} (h : RS w p c L) {i : Nat} (hi : i < L.length) : ∃ g o x, p = some ⟨g, o, none⟩ ∧ L[i]? = some x ∧
    w.cell? ⟨g, o + i * 2, none⟩ = some (.int .u8 x.1) ∧ w.cell? ⟨g, o + i * 2 + 1, none⟩ = some (.string ⟨x.2.toArray⟩) := by
  cases hp : p with
  | none => have := (h.nil hp).1; subst this; simp at hi
  | some ad =>
    obtain ⟨g, o, rfl, _, hcell⟩ := h.row ad hp
    have hx : L[i]? = some L[i] := List.getElem?_eq_getElem hi
    obtain ⟨l0, l1⟩ := rcells_at L hx
    exact ⟨g, o, L[i], rfl, hx, hcell _ _ l0, by rw [Nat.add_assoc]; exact hcell _ _ l1⟩
theorem RS.below {w w' : World} {p : Option Addr} {c : Nat} {L : List (Nat × List UInt8)} (h : RS w p c L) (k : Below w.heap.size w w') : RS w' p c L := by
  refine ⟨h.le, h.max, h.nil, fun ad ha => ?_⟩
  obtain ⟨g, o, e, hg, hc⟩ := h.row ad ha
  exact ⟨g, o, e, Nat.lt_of_lt_of_le hg k.size, fun j u hu => ((Turns.of_below (R := fun _ => False) k).cell hg id).trans (hc j u hu)⟩
theorem RNetP.rs {w : World} {F : Nat → Prop} {b n : Nat} {L : List (Nat × List UInt8)} {p : Option Addr} {c : Nat} (h : RNetP w F b n L p c) : RS w p c L := by
  refine ⟨h.row.le, h.row.max, fun e => ⟨List.eq_nil_of_length_eq_zero (h.row.nil e).1, (h.row.nil e).2⟩, fun ad ha => ?_⟩
  obtain ⟨g, rfl, _, _, h4, h5, _⟩ := h.row.at_ ad ha
  exact ⟨g, 0, rfl, h4, fun j u hu => by rw [Nat.zero_add]; exact h5 j u hu⟩
set_option maxRecDepth 100000 in
set_option maxHeartbeats 1000000 in
theorem same_any (K1 : Nat → Prop) (p1 p2 : Option Addr) (m c1 c2 : Nat) (L : List (Nat × List UInt8)) (w : World) (h1 : LS w K1 p1 c1 L) (h2 : RS w p2 c2 L) (hm : m = L.length) :
    Calls Try.prog 15 #[.slice p1 m c1, .slice p2 m c2] w fun en w' => en = .returned (.bool true) ∧ Below w.heap.size w w' := by
  have hL := h1.le
  have hmx := h1.max
  simp only [maxLen] at hmx
  rw [← hm] at hL
  have H1 := Calm.hid h1
  have H2 := Calm.hid h2
  have HM := Calm.hid hm
  clear h1 h2
  clear hm
  go_enter Try.func15, Try.ntmps15
  go_wp2_with fail
  go_loopw [5] (fun ct wr => ∃ i : Nat, i ≤ m ∧ ct = .int .i64 i ∧ Below w.heap.size w wr) (fun ct _ => m - (intOf ct).toNat)
  case atStart => exact ⟨0, by omega, rfl, Below.refl _ _⟩
  case round =>
    obtain ⟨i, him, rfl, hb⟩ := hrel
    have HB := Calm.hid hb
    clear hb
    by_cases hlt : i < m
    · obtain ⟨g1, o1, q1, k1, x, rfl, hx, d0, d1, hb1, hx1, hx2⟩ := (H1.out.below HB.out).get (i := i) (by rw [← HM.out]; exact hlt)
      obtain ⟨g2, o2, y, rfl, hy, e0, e1⟩ := (H2.out.below HB.out).get (i := i) (by rw [← HM.out]; exact hlt)
      obtain rfl : x = y := by rw [hx] at hy; cases hy; rfl
      have ks1 := fun n => (hb1.drewN n).str Try.underlying31 Try.underlying5 Try.underlying9
      clear hx hy hb1
      go_wp2_with fail
      refine Calm.region_d 25 (by kernel_rfl) (by kernel_rfl) ?_
      simp only [List.take, List.drop]
      repeat (go_big_quiet_step (fail))
      refine wpQuiet_nil ?_
      rintro _ ⟨nq, rfl⟩
      refine wpList_nil ?_
      go_wp2
      go_roundw
      case rel => exact ⟨i + 1, by omega, by go_num, HB.out.os, HB.out.tape, HB.out.output, HB.out.size, HB.out.block⟩
      case measure => simp [intOf]; omega
    · go_wp2
      go_ret
      exact ⟨rfl, HB.out⟩
end Go.Proofs.Ytfhjpnhchggljaa
