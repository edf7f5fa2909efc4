/-
  What a net holds: its block, its row, and each letter's bytes.
-/
import Derived.Test.YtfhjpnhchggljaaClone
import Derived.Test.YtfhjpnhchggljaaRowW
namespace Go.Proofs.Ytfhjpnhchggljaa
open Go.RowKit Go.Sha Go.Calm
/-- A row's cells read as letters: a receiver, and a slice that reads as bytes; where it has bytes its block satisfies K. -/
def LV (w : World) (K : Nat → Prop) : List Value → List (Nat × List UInt8) → Prop
  | [], [] => True
  | a :: s :: cs, x :: L => (a = .int .u8 x.1 ∧ x.1 < 256 ∧ x.2.length ≤ 65536 ∧ ∃ p c, s = .slice p x.2.length c ∧ BytesOf w p x.2.length c x.2 ∧ ∀ ad, p = some ad → 0 < x.2.length → K ad.block) ∧ LV w K cs L
  | _, _ => False
section
variable {w w' : World} {K K' R : Nat → Prop}
theorem LV.length : ∀ {cs : List Value} {L : List (Nat × List UInt8)}, LV w K cs L → cs.length = L.length * 2
  | [], [], _ => rfl
  | a :: s :: cs, x :: L, h => by have := LV.length h.2; simp only [List.length_cons, this]; omega
  | [], _ :: _, h => h.elim
  | [_], _, h => by simp only [LV] at h
  | _ :: _ :: _, [], h => h.elim
theorem LV.turns (k : Turns R w w') (hr : ∀ b, K b → ¬ R b) : ∀ {cs : List Value} {L : List (Nat × List UInt8)}, LV w K cs L → LV w' K cs L
  | [], [], _ => trivial
  | a :: s :: cs, x :: L, h => by
    obtain ⟨⟨h1, h2, h2', p, c, h3, h4, h5⟩, h6⟩ := h
    exact ⟨⟨h1, h2, h2', p, c, h3, h4.turns k (fun ad ha hn => hr _ (h5 ad ha hn)), h5⟩, LV.turns k hr h6⟩
  | [], _ :: _, h => h.elim
  | [_], _, h => by simp only [LV] at h
  | _ :: _ :: _, [], h => h.elim
theorem LV.mono (hk : ∀ b, b < w.heap.size → K b → K' b) : ∀ {cs : List Value} {L : List (Nat × List UInt8)}, LV w K cs L → LV w K' cs L
  | [], [], _ => trivial
  | a :: s :: cs, x :: L, h => by
    obtain ⟨⟨h1, h2, h2', p, c, h3, h4, h5⟩, h6⟩ := h
    refine ⟨⟨h1, h2, h2', p, c, h3, h4, fun ad ha hn => hk _ ?_ (h5 ad ha hn)⟩, LV.mono hk h6⟩
    subst ha
    have := World.block_lt_of_cell? w _ (h4.at_ ad rfl 0 hn)
    have e : (ad.add 0).block = ad.block := by unfold Addr.add; split <;> rfl
    rwa [e] at this
  | [], _ :: _, h => h.elim
  | [_], _, h => by simp only [LV] at h
  | _ :: _ :: _, [], h => h.elim
theorem LV.append : ∀ {cs ds : List Value} {L M : List (Nat × List UInt8)}, LV w K cs L → LV w K ds M → LV w K (cs ++ ds) (L ++ M)
  | [], _, [], _, _, k => k
  | a :: s :: cs, _, x :: L, _, h, k => ⟨h.1, LV.append h.2 k⟩
  | [], _, _ :: _, _, h, _ => h.elim
  | [_], _, _, _, h, _ => by simp only [LV] at h
  | _ :: _ :: _, _, [], _, h, _ => h.elim
theorem LV.one {x : Nat × List UInt8} {p : Option Addr} {c : Nat} (h1 : x.1 < 256) (h2 : x.2.length ≤ 65536) (h3 : BytesOf w p x.2.length c x.2) (h4 : ∀ ad, p = some ad → 0 < x.2.length → K ad.block) :
    LV w K [.int .u8 x.1, .slice p x.2.length c] [x] := ⟨⟨rfl, h1, h2, p, c, rfl, h3, h4⟩, trivial⟩
theorem LV.cells : ∀ {cs : List Value} {L : List (Nat × List UInt8)}, LV w K cs L → ∀ u ∈ cs, u.oneCell' = true
  | [], [], _, u, hu => by cases hu
  | a :: s :: cs, x :: L, h, u, hu => by
    obtain ⟨⟨rfl, _, _, p, c, rfl, _, _⟩, h6⟩ := h
    rcases List.mem_cons.1 hu with rfl | hu
    · rfl
    · rcases List.mem_cons.1 hu with rfl | hu
      · rfl
      · exact LV.cells h6 u hu
  | [], _ :: _, h, _, _ => h.elim
  | [_], _, h, _, _ => by simp only [LV] at h
  | _ :: _ :: _, [], h, _, _ => h.elim
end
/-- Block b is a net for n carriers, its row is the slice (p, c) with the cells cs; its letters are L. All that it is made of are blocks of F. -/
structure NetP (w : World) (F : Nat → Prop) (b n : Nat) (L : List (Nat × List UInt8)) (p : Option Addr) (c : Nat) (cs : List Value) : Prop where
  own : F b
  most : n ≤ 255
  rw_ : Rw w b [.int .i64 n, .slice p L.length c] 59
  row : RowOf w F b 2 cs p L.length c
  lv : LV w (fun k => F k ∧ k ≠ b ∧ ¬ rowBlk p k) cs L
def Net (w : World) (F : Nat → Prop) (b n : Nat) (L : List (Nat × List UInt8)) : Prop := ∃ p c cs, NetP w F b n L p c cs
section
variable {w w' : World} {F F' R : Nat → Prop} {b n : Nat} {L : List (Nat × List UInt8)} {p : Option Addr} {c : Nat} {cs : List Value}
theorem NetP.lt (h : NetP w F b n L p c cs) : b < w.heap.size := h.rw_.lt
theorem NetP.row_of (h : NetP w F b n L p c cs) {m : Nat} (hm : m = L.length) : RowOf w F b 2 cs p m c := by subst hm; exact h.row
theorem NetP.mono (h : NetP w F b n L p c cs) (hF : ∀ k, k < w.heap.size → F k → F' k) : NetP w F' b n L p c cs :=
  ⟨hF b h.lt h.own, h.most, h.rw_, h.row.mono hF, h.lv.mono fun k hk h => ⟨hF k hk h.1, h.2⟩⟩
theorem NetP.turns (h : NetP w F b n L p c cs) (k : Turns R w w') (hr : ∀ x, F x → ¬ R x) : NetP w' F b n L p c cs :=
  ⟨h.own, h.most, h.rw_.turns k (hr b h.own), h.row.turns k (fun g hg => hr g (h.row.blk hg).1), h.lv.turns k (fun x hx => hr x hx.1)⟩
theorem NetP.store {old : Value} {m : Nat} (hrw : Rw w b [.int .i64 n, old] 59) (own : F b) (most : n ≤ 255) (hm : m = L.length) (row : RowOf w F b 2 cs p m c) (lv : LV w (fun k => F k ∧ k ≠ b ∧ ¬ rowBlk p k) cs L) :
    NetP (w.setCell ⟨b, 1, none⟩ (.slice p m c)) F b n L p c cs := by
  subst hm
  have ht : Turns (· = b) w (w.setCell ⟨b, 1, none⟩ (.slice p L.length c)) := (Turns.refl (· = b) w).setCell (a := ⟨b, 1, none⟩) (fun _ => rfl) _
  exact ⟨own, most, hrw.set 1 _, row.turns ht (fun g hg => (row.blk hg).2.1), lv.turns ht (fun x hx => hx.2.1)⟩
/-- The letters that stay, where the row was appended to. -/
theorem LV.kept {F F' : Nat → Prop} {p p' : Option Addr} {u : World} (h : LV w (fun k => F k ∧ k ≠ b ∧ ¬ rowBlk p k) cs L) (h1 : Turns (rowBlk p) w w') (hF : ∀ k, k < w.heap.size → F k → F' k) (h2 : ∀ k, k < u.heap.size → rowBlk p' k → rowBlk p k) (h3 : w.heap.size ≤ u.heap.size) : LV w' (fun k => F' k ∧ k ≠ b ∧ ¬ rowBlk p' k) cs L := by
  have h4 : LV w (fun k => F' k ∧ k ≠ b ∧ ¬ rowBlk p k ∧ ¬ rowBlk p' k) cs L := h.mono fun k hk h => ⟨hF k hk h.1, h.2.1, h.2.2, fun hr => h.2.2 (h2 k (by omega) hr)⟩
  have h5 : LV w' (fun k => F' k ∧ k ≠ b ∧ ¬ rowBlk p k ∧ ¬ rowBlk p' k) cs L := h4.turns h1 (fun _ h => h.2.2.1)
  exact h5.mono fun k _ h => ⟨h.1, h.2.1, h.2.2.2⟩
theorem NetP.net (h : NetP w F b n L p c cs) : Net w F b n L := ⟨_, _, _, h⟩
theorem Net.lt (h : Net w F b n L) : b < w.heap.size := by obtain ⟨p, c, cs, h⟩ := h; exact h.lt
theorem Net.mono (h : Net w F b n L) (hF : ∀ k, k < w.heap.size → F k → F' k) : Net w F' b n L := by obtain ⟨p, c, cs, h⟩ := h; exact ⟨p, c, cs, h.mono hF⟩
theorem Net.turns (h : Net w F b n L) (k : Turns R w w') (hr : ∀ x, F x → ¬ R x) : Net w' F b n L := by obtain ⟨p, c, cs, h⟩ := h; exact ⟨p, c, cs, h.turns k hr⟩
end
end Go.Proofs.Ytfhjpnhchggljaa
