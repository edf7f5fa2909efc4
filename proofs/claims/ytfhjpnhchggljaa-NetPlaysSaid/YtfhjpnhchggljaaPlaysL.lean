/-
  NetPlays: the two nets side by side; what each operation does to both.
-/
import Derived.Test.YtfhjpnhchggljaaSoft
import Derived.Test.YtfhjpnhchggljaaSame
import Derived.Test.YtfhjpnhchggljaaRefOps
import Derived.Test.YtfhjpnhchggljaaOrderW
namespace Go.Proofs.Ytfhjpnhchggljaa
open Go.RowKit Go.Sha Go.Calm
/-- A net with the letters L, and the document's with the letters M, each apart from the other. -/
structure PX (w : World) (n : Nat) (L M : List (Nat × List UInt8)) (G A : Nat → Prop) (wr : World) : Prop where
  turns : Turns (fun k => w.heap.size ≤ k) w wr
  G1 : ∀ k, G k → w.heap.size ≤ k ∧ k < wr.heap.size
  A1 : ∀ k, A k → w.heap.size ≤ k ∧ k < wr.heap.size
  dis : ∀ k, G k → ¬ A k
  net : Net wr G w.heap.size n L
  ref : RNet wr A (w.heap.size + 1) n M
section
variable {w wr w' : World} {n : Nat} {L M L' : List (Nat × List UInt8)} {G A R : Nat → Prop}
theorem PX.turn (h : PX w n L M G A wr) (t : Turns R wr w') (h1 : ∀ x, R x → w.heap.size ≤ x) (h2 : ∀ x, R x → ¬ G x ∧ ¬ A x) : PX w n L M G A w' :=
  ⟨h.turns.trans (t.mono fun x _ hx => h1 x hx), fun x hx => ⟨(h.G1 x hx).1, Nat.lt_of_lt_of_le (h.G1 x hx).2 t.size⟩, fun x hx => ⟨(h.A1 x hx).1, Nat.lt_of_lt_of_le (h.A1 x hx).2 t.size⟩, h.dis, h.net.turns t (fun x hx hr => (h2 x hr).1 hx), h.ref.turns t (fun x hx hr => (h2 x hr).2 hx)⟩
theorem PX.below (h : PX w n L M G A wr) (k : Below wr.heap.size wr w') : PX w n L M G A w' :=
  h.turn (R := fun _ => False) (Turns.of_below k) (fun _ h => h.elim) (fun _ h => h.elim)
theorem PX.new (h : PX w n L M G A wr) (t : Turns (fun x => wr.heap.size ≤ x) wr w') : PX w n L M G A w' :=
  h.below (t.below fun _ hb h => by omega)
theorem PX.netop (h : PX w n L M G A wr) (t : Turns G wr w') (k : Net w' (fun x => G x ∨ wr.heap.size ≤ x) w.heap.size n L') : PX w n L' M (fun x => G x ∨ wr.heap.size ≤ x ∧ x < w'.heap.size) A w' := by
  have hs := t.size
  have hw := h.turns.size
  refine ⟨h.turns.trans (t.mono fun x _ hx => (h.G1 x hx).1), fun x hx => hx.elim (fun hx => ⟨(h.G1 x hx).1, Nat.lt_of_lt_of_le (h.G1 x hx).2 hs⟩) (fun hx => ⟨by omega, hx.2⟩), fun x hx => ⟨(h.A1 x hx).1, Nat.lt_of_lt_of_le (h.A1 x hx).2 hs⟩, fun x hx ha => hx.elim (fun hx => h.dis x hx ha) (fun hx => by have := (h.A1 x ha).2; omega), k.mono fun x hx h => h.elim .inl fun h => .inr ⟨h, hx⟩, h.ref.turns t (fun x ha hg => h.dis x hg ha)⟩
theorem PX.refop (h : PX w n L M G A wr) (t : Turns A wr w') (k : RNet w' (fun x => A x ∨ wr.heap.size ≤ x) (w.heap.size + 1) n L') : PX w n L L' G (fun x => A x ∨ wr.heap.size ≤ x ∧ x < w'.heap.size) w' := by
  have hs := t.size
  have hw := h.turns.size
  refine ⟨h.turns.trans (t.mono fun x _ hx => (h.A1 x hx).1), fun x hx => ⟨(h.G1 x hx).1, Nat.lt_of_lt_of_le (h.G1 x hx).2 hs⟩, fun x hx => hx.elim (fun hx => ⟨(h.A1 x hx).1, Nat.lt_of_lt_of_le (h.A1 x hx).2 hs⟩) (fun hx => ⟨by omega, hx.2⟩), fun x hg hx => hx.elim (fun hx => h.dis x hg hx) (fun hx => by have := (h.G1 x hg).2; omega), h.net.turns t (fun x hg ha => h.dis x hg ha), k.mono fun x hx h => h.elim .inl fun h => .inr ⟨h, hx⟩⟩
end
/-- Letters that were sent. -/
def WF (n : Nat) (L : List (Nat × List UInt8)) : Prop := L.length ≤ 4096 ∧ ∀ x ∈ L, x.1 < n ∧ x.2.length ≤ 65536
theorem WF.send {n : Nat} {L : List (Nat × List UInt8)} (h : WF n L) (to : Nat) (bs : List UInt8) : WF n (sendL n L to bs) := by
  refine ⟨sendL_le h.1, ?_⟩
  unfold sendL
  split
  · rename_i hz
    unfold sendE at hz
    intro x hx
    rcases List.mem_append.1 hx with hx | hx
    · exact h.2 x hx
    · simp at hx; subst hx
      split at hz
      · omega
      · split at hz
        · omega
        · split at hz
          · omega
          · exact ⟨by omega, by simp; omega⟩
  · exact h.2
theorem WF.take {n : Nat} {L : List (Nat × List UInt8)} (h : WF n L) (i : Int) : WF n (takeL L i) := by
  unfold takeL
  split
  · exact ⟨by rw [List.length_eraseIdx]; have := h.1; split <;> omega, fun x hx => h.2 x (List.mem_of_mem_eraseIdx hx)⟩
  · exact h
theorem getD_mem {L : List (Nat × List UInt8)} {i : Int} (h : inR L i) : L.getD i.toNat (0, []) ∈ L := by
  have hl : i.toNat < L.length := by have := h.1; have := h.2; omega
  rw [List.getD_eq_getElem?_getD, List.getElem?_eq_getElem hl]
  exact List.getElem_mem hl
theorem WF.hold {n : Nat} {L : List (Nat × List UInt8)} (h : WF n L) (i : Int) : WF n (holdL L i) := by
  unfold holdL
  split
  · rename_i hi
    have hl : i.toNat < L.length := by have := hi.1; have := hi.2; omega
    refine ⟨by rw [List.length_append, List.length_eraseIdx, if_pos hl]; have := h.1; simp; omega, fun x hx => ?_⟩
    rcases List.mem_append.1 hx with hx | hx
    · exact h.2 x (List.mem_of_mem_eraseIdx hx)
    · simp at hx; subst hx
      have := h.2 _ (getD_mem hi)
      rwa [List.getD_eq_getElem?_getD] at this
  · exact h
theorem WF.double {n : Nat} {L : List (Nat × List UInt8)} (h : WF n L) (i : Int) : WF n (doubleL n L i) := by
  unfold doubleL
  split
  · exact h.send _ _
  · exact h
/-- The document's Double is the net's, where the letters were sent. -/
theorem WF.same {n : Nat} {L : List (Nat × List UInt8)} (h : WF n L) (i : Int) : rdE L i = doubleE n L i ∧ rdL L i = doubleL n L i := by
  by_cases hi : inR L i
  · obtain ⟨h1, h2⟩ := h.2 _ (getD_mem hi)
    unfold rdE rdL doubleE doubleL
    rw [if_pos hi, if_pos hi, if_pos hi, if_pos hi]
    generalize L.getD i.toNat (0, []) = x at h1 h2
    have hE : sendE n L x.1 x.2 = if 4096 ≤ L.length then 3 else 0 := by
      unfold sendE
      rw [if_neg (by omega : ¬ n ≤ x.1), if_neg (by omega : ¬ 65536 < x.2.length)]
    unfold sendL
    rw [hE]
    by_cases hf : 4096 ≤ L.length
    · rw [if_pos hf, if_pos hf, if_pos hf]; exact ⟨rfl, rfl⟩
    · rw [if_neg hf, if_neg hf, if_neg hf]; exact ⟨rfl, rfl⟩
  · unfold rdE rdL doubleE doubleL
    rw [if_neg hi, if_neg hi, if_neg hi, if_neg hi]
    exact ⟨rfl, rfl⟩
def takeX (L : List (Nat × List UInt8)) (i : Int) : Nat × List UInt8 := if inR L i then L.getD i.toNat (0, []) else (0, [])
theorem take_any (F : Nat → Prop) (b n : Nat) (L : List (Nat × List UInt8)) (i : Int) (w : World) (hN : Net w F b n L) (hL : L.length ≤ 4096) (h64 : -9223372036854775808 ≤ i ∧ i < 9223372036854775808) :
    Calls Try.prog 13 #[.pointer (some ⟨b, 0, none⟩), .int .i64 i] w fun en w' => ∃ q cq, en = .returned (.tuple #[.agg #[.int .u8 (takeX L i).1, .slice q (takeX L i).2.length cq], .int .i64 (takeE L i)]) ∧ Turns F w w' ∧
      Net w' (fun k => F k ∨ w.heap.size ≤ k) b n (takeL L i) ∧ LV w' (fun _ => True) [.int .u8 (takeX L i).1, .slice q (takeX L i).2.length cq] [takeX L i] := by
  by_cases h : inR L i
  · obtain ⟨r, rfl⟩ : ∃ r : Nat, i = r := ⟨i.toNat, by have := h.1; omega⟩
    obtain ⟨x, hx⟩ := getElem?_of L (i := r) (by have := h.2; omega)
    have hget : L.getD (r : Int).toNat (0, []) = x := by simp [List.getD_eq_getElem?_getD, hx]
    rw [takeX, takeE, takeL, if_pos h, if_pos h, if_pos h, hget]
    refine (take_in F b n L r x w hN hL hx).mono ?_
    rintro e w2 ⟨q, cq, rfl, ht, p', c', cs', hn, hl⟩
    exact ⟨q, cq, rfl, ht, hn.net, hl.mono fun _ _ _ => trivial⟩
  · rw [takeX, takeE, takeL, if_neg h, if_neg h, if_neg h]
    refine (take_out F b n L i w hN (by unfold inR at h; omega) h64).mono ?_
    rintro e w2 ⟨rfl, hb⟩
    refine ⟨none, 0, rfl, Turns.of_below hb, (hN.turns (Turns.of_below (R := fun _ => False) hb) (fun _ _ h => h)).mono fun k _ h => .inl h, ?_⟩
    exact LV.one (x := (0, [])) (by decide) (by simp) ⟨rfl, Nat.le_refl _, Nat.zero_le _, fun _ => ⟨rfl, rfl⟩, fun _ h => by cases h⟩ (fun ad h => by cases h)
theorem rtake_any (F : Nat → Prop) (b n : Nat) (L : List (Nat × List UInt8)) (i : Int) (w : World) (hN : RNet w F b n L) (hL : L.length ≤ 4096) :
    Calls Try.prog 14 #[.pointer (some ⟨b, 0, none⟩), .int .i64 i] w fun en w' => en = .returned (rtup (takeX L i) (takeE L i)) ∧ Turns F w w' ∧ RNet w' (fun k => F k ∨ w.heap.size ≤ k) b n (takeL L i) := by
  by_cases h : inR L i
  · obtain ⟨r, rfl⟩ : ∃ r : Nat, i = r := ⟨i.toNat, by have := h.1; omega⟩
    obtain ⟨x, hx⟩ := getElem?_of L (i := r) (by have := h.2; omega)
    have hget : L.getD (r : Int).toNat (0, []) = x := by simp [List.getD_eq_getElem?_getD, hx]
    rw [takeX, takeE, takeL, if_pos h, if_pos h, if_pos h, hget]
    exact rtake_in F b n L r x w hN hL hx
  · rw [takeX, takeE, takeL, if_neg h, if_neg h, if_neg h]
    refine (rtake_out F b n L i w hN (by unfold inR at h; omega)).mono ?_
    rintro e w2 ⟨rfl, hb⟩
    exact ⟨rfl, Turns.of_below hb, (hN.turns (Turns.of_below (R := fun _ => False) hb) (fun _ _ h => h)).mono fun k _ h => .inl h⟩
theorem rnet_new (w : World) (n : Nat) : RNet (w.alloc (.cells #[.int .i64 n, .slice none 0 0] 49)) (fun k => w.heap.size ≤ k) w.heap.size n [] :=
  ⟨none, 0, Nat.le_refl _, Rw.new w _ 49, RowOf.none _ _ _ _⟩
end Go.Proofs.Ytfhjpnhchggljaa
