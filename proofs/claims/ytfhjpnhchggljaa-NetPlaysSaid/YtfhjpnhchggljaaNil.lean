/-
  No net: what each of the functions answers where the receiver is nil; New; and Len.
-/
import Derived.Test.YtfhjpnhchggljaaProg
import Derived.Test.YtfhjpnhchggljaaHeap
import Derived.Test.YtfhjpnhchggljaaBytes
import Derived.Test.YtfhjpnhchggljaaCalm
import Derived.Test.YtfhjpnhchggljaaCalmB
import Derived.WalkKit
import Derived.WalkSpells
import Derived.Deep.QuietTactic
import Derived.BigQuiet
import Derived.BigRegion
namespace Go.Proofs.Ytfhjpnhchggljaa
open Go.RowKit Go.Sha Go.Calm
attribute [local go_sem] Oper.semAt_some
set_option maxRecDepth 100000 in
theorem len_nil (w : World) : Calls Try.prog 21 #[.pointer none] w fun e w' => e = .returned (.int .i64 0) ∧ w' = w := by
  go_enter Try.func21, Try.ntmps21
  go_wp2
  go_ret
  exact ⟨rfl, rfl⟩
set_option maxRecDepth 100000 in
theorem letters_nil (w : World) : Calls Try.prog 22 #[.pointer none] w fun e w' => e = .returned (.slice none 0 0) ∧ w' = w := by
  go_enter Try.func22, Try.ntmps22
  go_wp2
  go_ret
  exact ⟨rfl, rfl⟩
set_option maxRecDepth 100000 in
theorem with_nil (i : Int) (f : Value) (w : World) : Calls Try.prog 26 #[.pointer none, .int .i64 i, f] w fun e w' => e = .returned (.int .i64 8) ∧ w' = w := by
  go_enter Try.func26, Try.ntmps26
  go_wp2
  go_ret
  exact ⟨rfl, rfl⟩
set_option maxRecDepth 100000 in
theorem send_nil (to : Int) (b : Value) (w : World) : Calls Try.prog 11 #[.pointer none, .int .u8 to, b] w fun e w' => e = .returned (.int .i64 8) ∧ w' = w := by
  go_enter Try.func11, Try.ntmps11
  go_wp2
  go_ret
  exact ⟨rfl, rfl⟩
set_option maxRecDepth 100000 in
theorem double_nil (i : Int) (w : World) : Calls Try.prog 17 #[.pointer none, .int .i64 i] w fun e w' => e = .returned (.int .i64 8) ∧ Below w.heap.size w w' := by
  go_enter Try.func17, Try.ntmps17
  go_wp2_with fail
  refine (with_nil i _ _).mono ?_
  rintro e w2 ⟨rfl, rfl⟩
  go_wp2
  go_ret
  exact ⟨rfl, (Below.refl _ _).alloc (Nat.le_refl _) _⟩
/-- What a function gives back whose results are a letter's cell and an error's slot. -/
theorem ret_letter {fn : Func} {p u : Tmp} (h : fn.results = #[.cell p 36, .tmp u]) {tmps : Array Value} {w : World} {g : Nat} (hp : tmps.getD p undef = .pointer (some ⟨g, 0, none⟩)) {x y e : Value} (hg : Rw w g [x, y] 36) (hu : tmps.getD u undef = e) :
    (results fn tmps).run Try.prog w = .ok (.tuple #[.agg #[x, y], e]) w := by
  rw [results_cell_tmp h, hp, hu]
  have := run_loadVar_row (P := Try.prog) w g 36 36 #[x, y] (0, 0) _ hg Try.underlying36 rfl (by kernel_rfl)
  simp [asAddr, this, Result.andThen]
theorem one2 (x y : Value) (hx : x.oneCell' = true) (hy : y.oneCell' = true) : ∀ u ∈ [x, y], u.oneCell' = true := by
  intro u hu
  simp at hu
  rcases hu with rfl | rfl <;> assumption
/-- What Take gives where it gives nothing. -/
def noLetter (e : Int) : Value := .tuple #[.agg #[.int .u8 0, .slice none 0 0], .int .i64 e]
set_option maxRecDepth 100000 in
set_option maxHeartbeats 1000000 in
theorem take_nil (i : Int) (w : World) : Calls Try.prog 13 #[.pointer none, .int .i64 i] w fun e w' => e = .returned (noLetter 8) ∧ Below w.heap.size w w' := by
  obtain ⟨wa, hwa⟩ : ∃ wa, wa = (w.alloc (.cells #[.pointer none] 25)).alloc (.cells #[.int .i64 i] 3) := ⟨_, rfl⟩
  have hba : Below w.heap.size w wa := by rw [hwa]; exact ((Below.refl _ _).alloc (Nat.le_refl _) _).alloc (by simp) _
  have hsa : wa.heap.size = w.heap.size + 1 + 1 := by rw [hwa]; simp
  obtain ⟨wb, hwb⟩ : ∃ wb, wb = wa.alloc (.cells #[.int .u8 0, .slice none 0 0] 36) := ⟨_, rfl⟩
  have hsb : wb.heap.size = w.heap.size + 1 + 1 + 1 := by rw [hwb]; simp [hsa]
  have hr4 : Rw wb (w.heap.size + 1 + 1) [.int .u8 0, .slice none 0 0] 36 := by rw [hwb, ← hsa]; exact Rw.new wa _ 36
  have hbb : Below w.heap.size w wb := by rw [hwb]; exact hba.alloc hba.size _
  obtain ⟨wc, hwc⟩ : ∃ wc, wc = wb.alloc (.cells #[.int .u8 0, .slice none 0 0] 36) := ⟨_, rfl⟩
  have hr6 : Rw wc (w.heap.size + 1 + 1 + 1) [.int .u8 0, .slice none 0 0] 36 := by rw [hwc, ← hsb]; exact Rw.new wb _ 36
  have hr4c : Rw wc (w.heap.size + 1 + 1) [.int .u8 0, .slice none 0 0] 36 := by rw [hwc]; exact hr4.alloc _
  have hbc : Below w.heap.size w wc := by rw [hwc]; exact hbb.alloc hbb.size _
  have hw : wc = (((w.alloc (.cells #[.pointer none] 25)).alloc (.cells #[.int .i64 i] 3)).alloc (.cells #[.int .u8 0, .slice none 0 0] 36)).alloc (.cells #[.int .u8 0, .slice none 0 0] 36) := by rw [hwc, hwb, hwa]
  have HW := Calm.hid hw
  have H4 := Calm.hid hr4c
  have HB := Calm.hid hbc
  have c0 := hr6.cell (i := 0) rfl
  have c1 := hr6.cell (i := 1) rfl
  clear hw hwc hwb hwa hr4 hr6 hr4c hbc hbb hba hsa hsb
  go_enter Try.func13, Try.ntmps13
  go_wp2_with fail
  rw [← HW.out]
  refine (with_nil i _ _).mono ?_
  rintro e w2 ⟨rfl, rfl⟩
  go_wp2_with (refine wpList_store_rw rfl 36 (.tmp 4) (.tmp 12) rfl (w.heap.size + 1 + 1) [.int .u8 0, .slice none 0 0] rfl rfl 36 _ H4.out (by kernel_rfl) rfl (one2 _ _ rfl rfl) ?_; intro w9 hr9 ht9; have HR9 := Calm.hid hr9; have HB9 : Hid (Below w.heap.size w w9) := ((Turns.of_below HB.out).step ht9 (R := fun _ => False) (fun k hk e => by omega)).below (fun _ _ h => h); clear hr9 ht9)
  exact bodyPost_ret (ret_letter rfl rfl HR9.out rfl) rfl ⟨rfl, HB9.out⟩
set_option maxRecDepth 100000 in
theorem lose_nil (i : Int) (w : World) : Calls Try.prog 16 #[.pointer none, .int .i64 i] w fun e w' => e = .returned (.int .i64 8) ∧ Below w.heap.size w w' := by
  go_enter Try.func16, Try.ntmps16
  go_wp2_with fail
  refine (take_nil i _).mono ?_
  rintro e w2 ⟨rfl, hb⟩
  have HB := Calm.hid hb
  clear hb
  unfold noLetter
  go_wp2
  go_ret
  exact ⟨rfl, HB.out.alloc HB.out.size _⟩
set_option maxRecDepth 100000 in
theorem hold_nil (i : Int) (w : World) : Calls Try.prog 19 #[.pointer none, .int .i64 i] w fun e w' => e = .returned (.int .i64 8) ∧ Below w.heap.size w w' := by
  go_enter Try.func19, Try.ntmps19
  go_wp2_with fail
  refine (take_nil i _).mono ?_
  rintro e w2 ⟨rfl, hb⟩
  have HB := Calm.hid hb
  clear hb
  unfold noLetter
  go_wp2
  go_ret
  exact ⟨rfl, HB.out.alloc HB.out.size _⟩
/-- New: no net, or a block of its own. -/
theorem new_no (n : Int) (h : n < 2 ∨ 8 < n) (w : World) : Calls Try.prog 9 #[.int .i64 n] w fun e w' => e = .returned (.tuple #[.pointer none, .int .i64 1]) ∧ w' = w := by
  by_cases h2 : n < 2
  · go_enter Try.func9, Try.ntmps9
    go_wp2
    go_ret2
    exact ⟨rfl, rfl⟩
  · have h8 : 8 < n := by omega
    go_enter Try.func9, Try.ntmps9
    go_wp2
    go_ret2
    exact ⟨rfl, rfl⟩
theorem new_yes (n : Int) (h2 : 2 ≤ n) (h8 : n ≤ 8) (w : World) : Calls Try.prog 9 #[.int .i64 n] w fun e w' => e = .returned (.tuple #[.pointer (some ⟨w.heap.size, 0, none⟩), .int .i64 0]) ∧ w' = w.alloc (.cells #[.int .i64 n, .slice none 0 0] 59) := by
  go_enter Try.func9, Try.ntmps9
  go_wp2
  go_ret2
  exact ⟨rfl, rfl⟩
end Go.Proofs.Ytfhjpnhchggljaa
