/-
  A net that is known.
-/
import Derived.Test.YtfhjpnhchggljaaOps
import Derived.Lib.SlBytesConst
namespace Go.Proofs.Ytfhjpnhchggljaa
open Go.RowKit Go.Sha Go.Calm
attribute [local go_sem] Oper.semAt_some
theorem lit_bytes (w : World) (l : List UInt8) (fr : Nat × Nat) (hl : l.length ≤ maxLen) : BytesOf (w.alloc (.cells (l.map bv).toArray 5 fr)) (some ⟨w.heap.size, 0, none⟩) l.length l.length l :=
  ⟨rfl, Nat.le_refl _, hl, fun h => by simp at h, fun ad had j hj => by
    simp at had; subst had
    rw [add_plain, Nat.zero_add, cell_of_row _ _ _ _ _ _ (heap_alloc_new w _)]
    simp [hj]⟩
theorem net_new (w : World) (n : Nat) (hn : n ≤ 255) : Net (w.alloc (.cells #[.int .i64 n, .slice none 0 0] 59)) (fun k => w.heap.size ≤ k) w.heap.size n [] :=
  ⟨none, 0, [], Nat.le_refl _, hn, Rw.new w _ 59, RowOf.none _ _ _ _, trivial⟩
theorem step_net {w wi w' : World} {b n : Nat} {L : List (Nat × List UInt8)} (h : Turns (fun k => w.heap.size ≤ k) w wi) (ht : Turns (fun k => w.heap.size ≤ k) wi w') (hn : Net w' (fun k => w.heap.size ≤ k ∨ wi.heap.size ≤ k) b n L) :
    Turns (fun k => w.heap.size ≤ k) w w' ∧ Net w' (fun k => w.heap.size ≤ k) b n L :=
  ⟨h.trans ht, hn.mono fun _ _ hk => hk.elim id fun hk => Nat.le_trans h.size hk⟩
set_option maxRecDepth 100000 in
set_option maxHeartbeats 1000000 in
theorem wakes_any (w : World) : Calls Try.prog 8 #[] w fun en w' => en = .returned (.bool true) ∧ Below w.heap.size w w' := by
  have kc := fun (w : World) (C : Array Value) (n c : Nat) => Lib.run_convert_bytes_const (P := Try.prog) w 31 5 C n c Try.underlying31 Try.underlying5
  go_enter Try.func8, Try.ntmps8
  go_wp2_with fail
  refine (new_yes 3 (by omega) (by omega) _).mono ?_
  rintro e w1 ⟨rfl, hw1⟩
  have HN1 : Hid (Net w1 (fun k => w.heap.size ≤ k) w.heap.size 3 []) := by rw [hw1]; exact net_new w 3 (by omega)
  have HT1 : Hid (Turns (fun k => w.heap.size ≤ k) w w1) := by rw [hw1]; exact (Turns.refl _ w).alloc _
  clear hw1
  go_wp2_with fail
  have hta : Turns (fun _ => False) w1 (w1.alloc (Obj.cells #[Value.int IntKind.u8 97] 5 (1, 2))) := (Turns.refl _ w1).alloc _
  refine (send_any _ w.heap.size 3 [] 1 (some ⟨w1.heap.size, 0, none⟩) 1 1 _ (HN1.out.turns hta (fun _ _ h => h)) (by omega) [97] (lit_bytes w1 [97] _ (by decide))).mono ?_
  rintro e w2 ⟨rfl, ht, hn⟩
  obtain ⟨ht2, hn2⟩ := step_net (HT1.out.trans (hta.mono fun _ _ h => h.elim)) ht (hn.mono fun k _ h => h.elim .inl fun h => .inr h)
  have HT2 := Calm.hid ht2
  have HN2 := Calm.hid hn2
  clear ht2 hn2 ht hn hta HN1 HT1
  rw [show sendE 3 [] 1 [97] = 0 from rfl]
  go_wp2_with fail
  have hta : Turns (fun _ => False) w2 (w2.alloc (Obj.cells #[Value.int IntKind.u8 98] 5 (1, 2))) := (Turns.refl _ w2).alloc _
  refine (send_any _ w.heap.size 3 _ 2 (some ⟨w2.heap.size, 0, none⟩) 1 1 _ (HN2.out.turns hta (fun _ _ h => h)) (by omega) [98] (lit_bytes w2 [98] _ (by decide))).mono ?_
  rintro e w3 ⟨rfl, ht, hn⟩
  obtain ⟨ht3, hn3⟩ := step_net (HT2.out.trans (hta.mono fun _ _ h => h.elim)) ht hn
  have HT3 := Calm.hid ht3
  have HN3 := Calm.hid hn3
  clear ht3 hn3 ht hn hta HN2 HT2
  rw [show sendE 3 (sendL 3 [] 1 [97]) 2 [98] = 0 from rfl]
  go_wp2_with fail
  refine (hold_any _ w.heap.size 3 _ 0 _ HN3.out (by decide) (by omega)).mono ?_
  rintro e w4 ⟨rfl, ht, hn⟩
  obtain ⟨ht4, hn4⟩ := step_net HT3.out ht hn
  have HT4 := Calm.hid ht4
  have HN4 := Calm.hid hn4
  clear ht4 hn4 ht hn HN3 HT3
  rw [show takeE (sendL 3 (sendL 3 [] 1 [97]) 2 [98]) 0 = 0 from rfl]
  go_wp2_with fail
  refine (take_in _ w.heap.size 3 _ 0 (2, [98]) _ HN4.out (by decide) rfl).mono ?_
  rintro e w5 ⟨q, cq, rfl, ht, p', c', cs', hn, hl⟩
  obtain ⟨ht5, hn5⟩ := step_net HT4.out ht hn.net
  have HT5 := Calm.hid ht5
  have HN5 := Calm.hid hn5
  have hby : BytesOf w5 q 1 cq [98] := by obtain ⟨_, _, _, p', c', e, h, _⟩ := hl.1; cases e; exact h
  have ks := (hby.alloc (.cells #[.int .u8 2, .slice q 1 cq] 36)).str Try.underlying31 Try.underlying5 Try.underlying9
  clear ht5 hn5 ht hn HN4 HT4 hl hby
  go_wp2_with fail
  have htb : Turns (fun _ => False) w5 (w5.alloc (Obj.cells #[Value.int IntKind.u8 2, Value.slice q 1 cq] 36)) := (Turns.refl _ w5).alloc _
  have HN6 := Calm.hid (HN5.out.turns htb (fun _ _ h => h))
  have HT6 := Calm.hid (HT5.out.trans (htb.mono fun _ _ h => h.elim))
  clear htb HN5 HT5
  refine (len_any _ w.heap.size 3 _ _ HN6.out).mono ?_
  rintro e w6 ⟨rfl, rfl⟩
  rw [show ((holdL (sendL 3 (sendL 3 [] 1 [97]) 2 [98]) 0).eraseIdx 0).length = 1 from rfl]
  go_wp2_with fail
  refine (lose_any _ w.heap.size 3 _ 1 _ HN6.out (by decide) (by omega)).mono ?_
  rintro e w7 ⟨rfl, ht, hn⟩
  obtain ⟨ht7, _⟩ := step_net HT6.out ht hn
  have HT7 := Calm.hid ht7
  clear ht7 ht hn HN6 HT6
  rw [show takeE ((holdL (sendL 3 (sendL 3 [] 1 [97]) 2 [98]) 0).eraseIdx 0) 1 = 1 from rfl]
  go_wp2
  go_ret
  exact ⟨rfl, HT7.out.below (fun b hb h => by omega)⟩
end Go.Proofs.Ytfhjpnhchggljaa
