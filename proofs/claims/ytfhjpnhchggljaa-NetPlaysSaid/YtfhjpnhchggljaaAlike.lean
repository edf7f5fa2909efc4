/-
  Alike: two slices of letters that read the same.
-/
import Derived.Test.YtfhjpnhchggljaaLetters
namespace Go.Proofs.Ytfhjpnhchggljaa
open Go.RowKit Go.Sha Go.Calm
attribute [local go_sem] Oper.semAt_some
theorem LS.get {w : World} {K : Nat → Prop} {p : Option Addr} {c : Nat} {L : List (Nat × List UInt8)} (h : LS w K p c L) {i : Nat} (hi : i < L.length) : ∃ g o q cq x, p = some ⟨g, o, none⟩ ∧ L[i]? = some x ∧
    w.cell? ⟨g, o + i * 2, none⟩ = some (.int .u8 x.1) ∧ w.cell? ⟨g, o + i * 2 + 1, none⟩ = some (.slice q x.2.length cq) ∧ BytesOf w q x.2.length cq x.2 ∧ x.1 < 256 ∧ x.2.length ≤ 65536 := by
  obtain ⟨cs, hlv, hc⟩ := h.row
  cases hp : p with
  | none => have := (h.nil hp).1; subst this; simp at hi
  | some ad =>
    obtain ⟨g, o, rfl, _, _, hcell⟩ := hc ad hp
    have hx : L[i]? = some L[i] := List.getElem?_eq_getElem hi
    obtain ⟨q, cq, l0, l1, h1⟩ := hlv.at hx
    refine ⟨g, o, q, cq, L[i], rfl, hx, ?_, ?_, ?_, h1.1.2.1, h1.1.2.2.1⟩
    · exact hcell _ _ l0
    · rw [Nat.add_assoc]; exact hcell _ _ l1
    · obtain ⟨_, _, _, p', c', e, hb, _⟩ := h1.1; cases e; exact hb
theorem LS.below {w w' : World} {K : Nat → Prop} {p : Option Addr} {c : Nat} {L : List (Nat × List UInt8)} (h : LS w K p c L) (k : Below w.heap.size w w') : LS w' K p c L := by
  obtain ⟨cs, h1, h2⟩ := h.row
  refine ⟨h.le, h.max, h.nil, cs, h1.turns (Turns.of_below (R := fun _ => False) k) (fun _ _ h => h), fun ad ha => ?_⟩
  obtain ⟨g, o, e, hg, hK, hc⟩ := h2 ad ha
  exact ⟨g, o, e, Nat.lt_of_lt_of_le hg k.size, hK, fun j u hu => ((Turns.of_below (R := fun _ => False) k).cell hg id).trans (hc j u hu)⟩
theorem LS.turns {w w' : World} {R K : Nat → Prop} {p : Option Addr} {c : Nat} {L : List (Nat × List UInt8)} (h : LS w K p c L) (k : Turns R w w') (hr : ∀ x, K x → ¬ R x) : LS w' K p c L := by
  obtain ⟨cs, h1, h2⟩ := h.row
  refine ⟨h.le, h.max, h.nil, cs, h1.turns k hr, fun ad ha => ?_⟩
  obtain ⟨g, o, e, hg, hK, hc⟩ := h2 ad ha
  exact ⟨g, o, e, Nat.lt_of_lt_of_le hg k.size, hK, fun j u hu => (k.cell hg (hr g hK)).trans (hc j u hu)⟩
theorem LS.mono {w : World} {K K' : Nat → Prop} {p : Option Addr} {c : Nat} {L : List (Nat × List UInt8)} (h : LS w K p c L) (k : ∀ x, x < w.heap.size → K x → K' x) : LS w K' p c L := by
  obtain ⟨cs, h1, h2⟩ := h.row
  refine ⟨h.le, h.max, h.nil, cs, h1.mono k, fun ad ha => ?_⟩
  obtain ⟨g, o, e, hg, hK, hc⟩ := h2 ad ha
  exact ⟨g, o, e, hg, k g hg hK, hc⟩
theorem LS.take {w : World} {K : Nat → Prop} {p : Option Addr} {c : Nat} {L : List (Nat × List UInt8)} (h : LS w K p c L) (b : Nat) (hb : b ≤ L.length) : LS w K p c (L.take b) := by
  obtain ⟨cs, h1, h2⟩ := h.row
  refine ⟨by rw [List.length_take]; have := h.le; omega, h.max, fun e => ⟨by rw [(h.nil e).1]; simp, (h.nil e).2⟩, cs.take (b * 2), h1.take b, fun ad ha => ?_⟩
  obtain ⟨g, o, e, hg, hK, hc⟩ := h2 ad ha
  exact ⟨g, o, e, hg, hK, fun j u hu => hc j u (by rw [List.getElem?_take] at hu; split at hu <;> simp_all)⟩
/-- A part of such a slice, as the slicing leaves it. -/
theorem LS.sub {w : World} {K : Nat → Prop} {g o c : Nat} {L : List (Nat × List UInt8)} (h : LS w K (some ⟨g, o, none⟩) c L) (a b : Nat) (hb : b ≤ L.length) :
    LS w K (if c = a then some ⟨g, o, none⟩ else some ⟨g, o + a * 2, none⟩) (c - a) ((L.take b).drop a) := by
  have h' := h.take b hb
  obtain ⟨cs, h1, h2⟩ := h'.row
  have hl := h'.le
  have hm := h.max
  refine ⟨by rw [List.length_drop]; omega, by omega, fun e => (by split at e <;> cases e), cs.drop (a * 2), h1.drop a, fun ad ha => ?_⟩
  obtain ⟨g', o', e, hg, hK, hc⟩ := h2 _ rfl
  cases e
  by_cases hca : c = a
  · rw [if_pos hca] at ha
    cases ha
    refine ⟨g, o, rfl, hg, hK, fun j u hu => ?_⟩
    have := (List.getElem?_eq_some_iff.1 hu).1
    rw [List.length_drop, h1.length] at this
    omega
  · rw [if_neg hca] at ha
    cases ha
    refine ⟨g, o + a * 2, rfl, hg, hK, fun j u hu => ?_⟩
    rw [List.getElem?_drop] at hu
    rw [Nat.add_assoc]
    exact hc _ u hu
set_option maxRecDepth 100000 in
set_option maxHeartbeats 1000000 in
theorem alike_any (K1 K2 : Nat → Prop) (p1 p2 : Option Addr) (m c1 c2 : Nat) (L : List (Nat × List UInt8)) (w : World) (h1 : LS w K1 p1 c1 L) (h2 : LS w K2 p2 c2 L) (hm : m = L.length) :
    Calls Try.prog 24 #[.slice p1 m c1, .slice p2 m c2] w fun en w' => en = .returned (.bool true) ∧ Below w.heap.size w w' := by
  have hL := h1.le
  have hmx := h1.max
  simp only [maxLen] at hmx
  rw [← hm] at hL
  have H1 := Calm.hid h1
  have H2 := Calm.hid h2
  have HM := Calm.hid hm
  clear h1 h2
  clear hm
  go_enter Try.func24, Try.ntmps24
  go_wp2_with fail
  go_loopw [5] (fun ct wr => ∃ i : Nat, i ≤ m ∧ ct = .int .i64 i ∧ Below w.heap.size w wr) (fun ct _ => m - (intOf ct).toNat)
  case atStart => exact ⟨0, by omega, rfl, Below.refl _ _⟩
  case round =>
    obtain ⟨i, him, rfl, hb⟩ := hrel
    have HB := Calm.hid hb
    clear hb
    by_cases hlt : i < m
    · obtain ⟨g1, o1, q1, k1, x, rfl, hx, d0, d1, hb1, hx1, hx2⟩ := (H1.out.below HB.out).get (i := i) (by rw [← HM.out]; exact hlt)
      obtain ⟨g2, o2, q2, k2, y, rfl, hy, e0, e1, hb2, _, _⟩ := (H2.out.below HB.out).get (i := i) (by rw [← HM.out]; exact hlt)
      obtain rfl : x = y := by rw [hx] at hy; cases hy; rfl
      have ks1 := fun n => (hb1.drewN n).str Try.underlying31 Try.underlying5 Try.underlying9
      have ks2 := fun n => (hb2.drewN n).str Try.underlying31 Try.underlying5 Try.underlying9
      clear hx hy hb1 hb2
      go_wp2_with fail
      refine Calm.region_d 26 (by kernel_rfl) (by kernel_rfl) ?_
      simp only [List.take, List.drop]
      repeat (go_big_quiet_step (fail))
      refine wpQuiet_nil ?_
      rintro _ ⟨nq, rfl⟩
      refine wpList_nil ?_
      go_wp2
      go_roundw
      case rel => exact ⟨i + 1, by omega, by go_num, HB.out.os, HB.out.tape, HB.out.output, HB.out.size, HB.out.block⟩
      case measure => simp [intOf]; omega
    · go_wp2
      go_ret
      exact ⟨rfl, HB.out⟩
end Go.Proofs.Ytfhjpnhchggljaa
