/-
  Rows of acts: as they came; great.
-/
import Derived.Test.YtfhjpnhchggljaaOpen
namespace Go.Proofs.Ytfhjpnhchggljaa
open Go.ChangeShapes Go.WideShapes Go.ChangeAt Go.RowKit Go.Sha Go.Calm
attribute [local go_sem] Oper.semAt_some
/-- A slice that reads as these acts. -/
structure ActsOf (w : World) (p : Option Addr) (n c : Nat) (xs : List AA) : Prop where
  len : xs.length = n
  le : n ≤ c
  max : c ≤ maxLen
  at_ : 0 < n → ∃ g o, p = some ⟨g, o, none⟩ ∧ g < w.heap.size ∧ ∀ j a, xs[j]? = some a → ∀ k u, a.cells[k]? = some u → w.cell? ⟨g, o + j * 4 + k, none⟩ = some u
  ok : ∀ a ∈ xs, a.ok w
theorem AA.ok.below {w w' : World} {a : AA} (h : a.ok w) (k : Below w.heap.size w w') : a.ok w' := ⟨h.d, h.i, h.to, h.b.below k⟩
theorem ActsOf.below {w w' : World} {p : Option Addr} {n c : Nat} {xs : List AA} (h : ActsOf w p n c xs) (k : Below w.heap.size w w') : ActsOf w' p n c xs :=
  ⟨h.len, h.le, h.max, fun hn => by
    obtain ⟨g, o, e, hg, hc⟩ := h.at_ hn
    exact ⟨g, o, e, Nat.lt_of_lt_of_le hg k.size, fun j a ha i u hu => ((Turns.of_below (R := fun _ => False) k).cell hg id).trans (hc j a ha i u hu)⟩, fun a ha => (h.ok a ha).below k⟩
theorem acts_list {H : Type} {enc : TypeId × Value → H} {W : World} {ad : Addr} {m : Nat} : ∀ (n : Nat) (elems : List (DataW H × List MemPlace)), elems.length = n →
    (∀ i, i < n → (W.cells? 0 (ad.add (i * 4)) 4).bind (DataW.trod enc Try.prog W 0 (fun _ => true) true m 34) = elems[i]?) →
    ∃ xs : List AA, xs.length = n ∧ (∀ j a, xs[j]? = some a → W.cells? 0 (ad.add (j * 4)) 4 = some a.cells ∧ a.ok W)
  | 0, [], _, _ => ⟨[], rfl, fun j a h => by simp at h⟩
  | n + 1, elems, hl, h => by
    obtain ⟨xs, h1, h2⟩ := acts_list n (elems.take n) (by simp; omega) (fun i hi => by rw [h i (by omega), List.getElem?_take]; simp [hi])
    have h3 := h n (by omega)
    obtain ⟨x, hx⟩ : ∃ x, elems[n]? = some x := ⟨_, List.getElem?_eq_getElem (by omega)⟩
    rw [hx, Option.bind_eq_some_iff] at h3
    obtain ⟨cs, h4, h5⟩ := h3
    obtain ⟨a, rfl, hok⟩ := act_cells h5
    refine ⟨xs ++ [a], by simp [h1], fun j b hj => ?_⟩
    by_cases hjn : j < n
    · exact h2 j b (by rwa [List.getElem?_append_left (by omega)] at hj)
    · rw [List.getElem?_append_right (by omega)] at hj
      have : j - xs.length = 0 := by
        have := (List.getElem?_eq_some_iff.1 hj).1
        simp at this; omega
      rw [this] at hj
      simp at hj; subst hj
      obtain rfl : j = n := by omega
      exact ⟨h4, hok⟩
theorem open_acts {H : Type} {enc : TypeId × Value → H} {W : World} {v : Value} {d : DataW H} {pl : List MemPlace} (hv : ∃ a n c, v = .slice a n c)
    (h : DataW.Trod enc Try.prog W 0 (fun _ => true) true 22 v d pl) : ∃ p n c xs, v = .slice p n c ∧ ActsOf W p n c xs := by
  obtain ⟨fuel, hf⟩ := h
  obtain ⟨a, n, c, rfl⟩ := hv
  rcases DataW.trod_slice Try.underlying22 hf with ⟨hcs, _⟩ | ⟨ad, len, cap, elems, rest, m, _, hcs, _, _, hle, hmax, hel, hget, _⟩
  · simp [Value.cells] at hcs
    obtain ⟨rfl, rfl, rfl⟩ := hcs
    exact ⟨none, 0, 0, [], rfl, rfl, Nat.le_refl _, Nat.zero_le _, fun h => by omega, fun a ha => by cases ha⟩
  · simp [Value.cells] at hcs
    obtain ⟨e1, e2, e3⟩ := hcs
    subst e1 e2 e3
    rw [cells34] at hget
    obtain ⟨xs, h1, h2⟩ := acts_list n elems hel hget
    refine ⟨some ad, n, c, xs, rfl, h1, hle, hmax, fun hn => ?_, fun a ha => ?_⟩
    · obtain ⟨x0, hx0⟩ : ∃ x, xs[0]? = some x := ⟨_, List.getElem?_eq_getElem (by omega)⟩
      have h3 := (h2 0 x0 hx0).1
      obtain ⟨_, _, h4⟩ := World.cells?_some h3
      obtain ⟨g, o, sp⟩ := ad
      have h5 := h4 0 (by omega)
      have hsp : sp = none := by
        have h6 : W.cell? ((⟨g, o, sp⟩ : Addr).add (0 * 4) |>.add 0) = some (.int .i64 x0.d) := by rw [h5]; rfl
        have := World.cell?_spot h6
        simpa [Addr.add] using this
      subst hsp
      refine ⟨g, o, rfl, ?_, fun j a ha k u hu => ?_⟩
      · have h6 : W.cell? ((⟨g, o, none⟩ : Addr).add (0 * 4) |>.add 0) = some (.int .i64 x0.d) := by rw [h5]; rfl
        have := World.block_lt_of_cell? W _ h6
        simpa [Calm.add_plain] using this
      · obtain ⟨_, _, h7⟩ := World.cells?_some (h2 j a ha).1
        have hk : k < 4 := (List.getElem?_eq_some_iff.1 hu).1
        have := h7 k hk
        rw [Calm.add_plain, Calm.add_plain] at this
        rw [this, hu]
    · obtain ⟨j, hj, rfl⟩ := List.getElem_of_mem ha
      exact (h2 j _ (List.getElem?_eq_getElem hj)).2
theorem ActsOf.get {w : World} {p : Option Addr} {n c : Nat} {xs : List AA} (h : ActsOf w p n c xs) {i : Nat} (hi : i < n) : ∃ g o a, p = some ⟨g, o, none⟩ ∧ xs[i]? = some a ∧ a ∈ xs ∧
    w.cell? ⟨g, o + i * 4, none⟩ = some (.int .i64 a.d) ∧ w.cell? ⟨g, o + i * 4 + 1, none⟩ = some (.int .i64 a.i) ∧ w.cell? ⟨g, o + i * 4 + 2, none⟩ = some (.int .u8 a.to) ∧ w.cell? ⟨g, o + i * 4 + 3, none⟩ = some (.slice a.p a.n a.c) := by
  obtain ⟨g, o, e, _, hc⟩ := h.at_ (by omega)
  have hl : i < xs.length := by rw [h.len]; exact hi
  have ha : xs[i]? = some xs[i] := List.getElem?_eq_getElem hl
  exact ⟨g, o, xs[i], e, ha, List.getElem_mem hl, hc i _ ha 0 _ rfl, hc i _ ha 1 _ rfl, hc i _ ha 2 _ rfl, hc i _ ha 3 _ rfl⟩
set_option maxRecDepth 100000 in
set_option maxHeartbeats 1000000 in
theorem great_any (p : Option Addr) (n c : Nat) (xs : List AA) (w : World) (h : ActsOf w p n c xs) : Calls Try.prog 7 #[.slice p n c] w fun en w' => w' = w ∧ (en = .returned (.bool true) ∨ en = .returned (.bool false) ∧ n ≤ 200 ∧ ∀ a ∈ xs, a.n ≤ 70000) := by
  have H := Calm.hid h
  have hcm := h.max
  have hle := h.le
  simp only [maxLen] at hcm
  clear h
  by_cases hn : 200 < n
  · go_enter Try.func7, Try.ntmps7
    go_wp2
    go_ret
    exact ⟨rfl, .inl rfl⟩
  · go_enter Try.func7, Try.ntmps7
    go_wp2_with fail
    go_loopw [3] (fun ct wr => ∃ i : Nat, i ≤ n ∧ ct = .int .i64 i ∧ wr = w ∧ ∀ j a, j < i → xs[j]? = some a → a.n ≤ 70000) (fun ct _ => n - (intOf ct).toNat)
    case atStart => exact ⟨0, by omega, rfl, rfl, fun j a h => by omega⟩
    case round =>
      obtain ⟨i, hin, rfl, rfl, hs⟩ := hrel
      have HS := Calm.hid hs
      clear hs
      by_cases hlt : i < n
      · obtain ⟨g, o, a, rfl, ha, _, _, _, _, d3⟩ := H.out.get hlt
        have HA := Calm.hid ha
        clear ha
        by_cases hb : 70000 < a.n
        · go_wp2
          go_ret
          exact ⟨rfl, .inl rfl⟩
        · go_wp2
          go_roundw
          case rel =>
            refine ⟨i + 1, by omega, by go_num, trivial, fun j b hj hb' => ?_⟩
            by_cases hji : j = i
            · subst hji; rw [HA.out] at hb'; cases hb'; omega
            · exact HS.out j b (by omega) hb'
          case measure => simp [intOf]; omega
      · go_wp2
        go_ret
        refine ⟨rfl, .inr ⟨rfl, by omega, fun a ha => ?_⟩⟩
        obtain ⟨j, hj, rfl⟩ := List.getElem_of_mem ha
        exact HS.out j _ (by have := H.out.len; omega) (List.getElem?_eq_getElem hj)
end Go.Proofs.Ytfhjpnhchggljaa
