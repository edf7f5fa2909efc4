/-
  NetNil's walk.
-/
import Derived.Test.YtfhjpnhchggljaaOpen
namespace Go.Proofs.Ytfhjpnhchggljaa
open Go.RowKit Go.Sha Go.Calm
attribute [local go_sem] Oper.semAt_some
set_option maxRecDepth 100000 in
set_option maxHeartbeats 1000000 in
theorem nil_walk (d i : Int) (to : Nat) (p : Option Addr) (n c : Nat) (w : World) : Calls Try.prog 4 #[.agg #[.int .i64 d, .int .i64 i, .int .u8 to, .slice p n c]] w fun en w' => en = .returned (.bool true) ∧ Below w.heap.size w w' := by
  obtain ⟨wa, hwa⟩ : ∃ wa, wa = w.alloc (.cells #[.int .i64 d, .int .i64 i, .int .u8 to, .slice p n c] 34) := ⟨_, rfl⟩
  have ra : Rw wa w.heap.size [.int .i64 d, .int .i64 i, .int .u8 to, .slice p n c] 34 := by rw [hwa]; exact Rw.new w _ 34
  have hba : Below w.heap.size w wa := by rw [hwa]; exact (Below.refl _ _).alloc (Nat.le_refl _) _
  have hsa : wa.heap.size = w.heap.size + 1 := by rw [hwa]; simp
  have HW := Calm.hid hwa
  have HA := Calm.hid ra
  have HB := Calm.hid hba
  have c1 := ra.cell (i := 1) rfl
  clear ra hba
  rw [hwa] at c1
  clear hwa
  go_enter Try.func4, Try.ntmps4
  go_wp2_with fail
  rw [← HW.out]
  refine (take_nil i wa).mono ?_
  rintro e w2 ⟨rfl, hb⟩
  have ht2 := Turns.of_below (R := fun _ => False) hb
  have HA2 := Calm.hid (HA.out.turns ht2 id)
  have HT2 := Calm.hid ((Turns.of_below (R := fun _ => False) HB.out).trans ht2)
  clear hb ht2 c1
  unfold noLetter
  obtain ⟨w3, hw3⟩ : ∃ w3, w3 = w2.alloc (.cells #[.int .u8 0, .slice none 0 0] 36) := ⟨_, rfl⟩
  have r3 : Rw w3 w2.heap.size [.int .u8 0, .slice none 0 0] 36 := by rw [hw3]; exact Rw.new w2 _ 36
  have HT3 : Hid (Turns (fun _ => False) w w3) := by rw [hw3]; exact HT2.out.alloc _
  have HA3 : Hid (Rw w3 w.heap.size [.int .i64 d, .int .i64 i, .int .u8 to, .slice p n c] 34) := by rw [hw3]; exact HA2.out.alloc _
  have d0 := r3.cell (i := 0) rfl
  have d1 := r3.cell (i := 1) rfl
  have c1 := HA3.out.cell (i := 1) rfl
  have c2 := HA3.out.cell (i := 2) rfl
  have c3 := HA3.out.cell (i := 3) rfl
  have HW3 := Calm.hid hw3
  have HR3 := Calm.hid r3
  rw [hw3] at c1 c2 c3 d0 d1
  clear hw3 r3
  go_wp2_with fail
  rw [← HW3.out]
  refine (send_nil to _ w3).mono ?_
  rintro e w4 ⟨rfl, rfl⟩
  rw [HW3.out]
  go_wp2_with fail
  rw [← HW3.out]
  clear c1 c2 c3 d0 d1
  refine (lose_nil i _).mono ?_
  rintro e w5 ⟨rfl, hb⟩
  have ht5 := Turns.of_below (R := fun _ => False) hb
  have HA5 := Calm.hid (HA3.out.turns ht5 id)
  have HT5 := Calm.hid (HT3.out.trans ht5)
  have c1 := HA5.out.cell (i := 1) rfl
  clear hb ht5
  go_wp2_with fail
  clear c1
  refine (double_nil i w5).mono ?_
  rintro e w6 ⟨rfl, hb⟩
  have ht6 := Turns.of_below (R := fun _ => False) hb
  have HA6 := Calm.hid (HA5.out.turns ht6 id)
  have HT6 := Calm.hid (HT5.out.trans ht6)
  have c1 := HA6.out.cell (i := 1) rfl
  clear hb ht6
  go_wp2_with fail
  clear c1
  refine (hold_nil i w6).mono ?_
  rintro e w7 ⟨rfl, hb⟩
  have ht7 := Turns.of_below (R := fun _ => False) hb
  have HA7 := Calm.hid (HA6.out.turns ht7 id)
  have HT7 := Calm.hid (HT6.out.trans ht7)
  have c1 := HA7.out.cell (i := 1) rfl
  clear hb ht7
  go_wp2_with fail
  refine (letters_nil _).mono ?_
  rintro e w8 ⟨rfl, rfl⟩
  go_wp2_with fail
  refine (len_nil _).mono ?_
  rintro e w8 ⟨rfl, rfl⟩
  go_wp2_with fail
  refine (wakes_any _).mono ?_
  rintro e w8 ⟨rfl, hb⟩
  have HT8 := Calm.hid (HT7.out.trans (Turns.of_below hb))
  clear hb
  go_wp2
  go_ret
  exact ⟨rfl, HT8.out.below (fun _ _ h => h)⟩
end Go.Proofs.Ytfhjpnhchggljaa
