/-
  A nil hash writes nothing, and its sum is the digest of no bytes, which is not zero.
-/
import Derived.Test.YtpbahoapjkmcjaaDoorWakes
import Derived.Test.YtpbahoapjkmcjaaDoorEq
namespace Go.Proofs.YtpbahoapjkmcjaaDoor
open Go.RowKit Go.Sha Go.Calm
theorem Tryd.noGuard25 : Tryd.prog.eqGuardType Tryd.prog.depth 25 = false := by kernel_rfl
theorem eq25 (a b : List UInt8) (ha : a.length = 32) (hb : b.length = 32) (w : World) : (Op.equalIn 10000 25 (.agg (arr a)) (.agg (arr b))).run Tryd.prog w = .ok (decide (a = b)) w := by
  obtain ⟨i0, hi0, hz0, hz1, hz2⟩ := info_parts Tryd.info5
  exact run_equalIn_bytes w 9998 25 5 32 i0 Tryd.underlying25 Tryd.underlying5 hi0 hz1 a b ha hb
theorem eq25_zero (w : World) : (Op.equalIn 10000 25 (.agg (arr zero32)) (.agg #[.int .u8 0, .int .u8 0, .int .u8 0, .int .u8 0, .int .u8 0, .int .u8 0, .int .u8 0, .int .u8 0, .int .u8 0, .int .u8 0, .int .u8 0, .int .u8 0, .int .u8 0, .int .u8 0, .int .u8 0, .int .u8 0, .int .u8 0, .int .u8 0, .int .u8 0, .int .u8 0, .int .u8 0, .int .u8 0, .int .u8 0, .int .u8 0, .int .u8 0, .int .u8 0, .int .u8 0, .int .u8 0, .int .u8 0, .int .u8 0, .int .u8 0, .int .u8 0])).run Tryd.prog w = .ok true w := eq25 zero32 zero32 rfl rfl w
theorem write_nil (v : Value) (w : World) : Calls Tryd.prog 19 #[.pointer none, v] w fun en w' => en = .returned (.tuple #[]) ∧ w = w' := by
  go_enter Tryd.func19, Tryd.ntmps19
  go_wp2
  exact bodyPost_ret (results_none rfl _ _ _) rfl ⟨rfl, rfl⟩

theorem shaNil_walk (v : Value) (w : World) (hK : HasK w) : Calls Tryd.prog 6 #[v] w fun en w' => en = .returned (.bool true) ∧ Below w.heap.size w w' := by
  have HK := Calm.hid hK
  have hg := Tryd.noGuard25
  have hz := eq25_zero
  clear hK
  go_enter Tryd.func6, Tryd.ntmps6
  go_wp2_with fail
  refine (write_nil _ _).mono ?_
  rintro en w1 ⟨rfl, rfl⟩
  go_wp2_with fail
  refine (sum_nil _).mono ?_
  rintro en w1 ⟨rfl, hb1⟩
  have HB1 := Calm.hid hb1
  clear hb1
  go_wp2_with fail
  refine (wakes_any w1 (HK.out.below HB1.out)).mono ?_
  rintro en w2 ⟨rfl, hb2⟩
  have HB2 := Calm.hid hb2
  clear hb2
  go_wp2
  go_ret
  exact ⟨rfl, HB1.out.trans (HB2.out.mono HB1.out.size)⟩
/-- The same walk in the shape in which the card's text takes it. -/
theorem shaNil_card (b : List UInt8) (p : Option Addr) (c : Nat) (w : World) (_ : BytesOf w p b.length c b) (hK : HasK w) : Calls Tryd.prog 6 #[.slice p b.length c] w fun en w' => en = .returned (.bool true) ∧ Below w.heap.size w w' := shaNil_walk _ w hK
end Go.Proofs.YtpbahoapjkmcjaaDoor
