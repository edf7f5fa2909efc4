/-
  What turn, turned and three compute: rotations and shifts of one word, in every world.
-/
import Derived.Test.YtpbahoapjkmcjaaDoorProg
import Derived.Test.YtpbahoapjkmcjaaDoorCalm
import Derived.Test.YtpbahoapjkmcjaaDoorWords
import Derived.WalkKit
import Derived.WalkSpells
import Derived.WalkLawsBesides
import Derived.Deep.QuietTactic
import Derived.BigQuiet
namespace Go.Proofs.YtpbahoapjkmcjaaDoor
open Go.RowKit Go.Sha Go.Calm
attribute [local go_sem] u32_wrap_add u32_bits_xor u32_bits_and u32_bits_or u32_bits_not

theorem turn_any (x : UInt32) (n : Int) (h1 : 1 ≤ n) (h2 : n ≤ 31) (w : World) :
    Calls Tryd.prog 35 #[.int .u32 (U x), .int .i64 n] w fun e w' => e = .returned (.int .u32 (U (rot x n.toNat))) ∧ ∃ m, w' = w.drewN m := by
  obtain ⟨n, rfl⟩ := Int.eq_ofNat_of_zero_le (show 0 ≤ n by omega)
  have hr := rot_walk x n
  rw [Int.toNat_natCast]
  have H : Hid _ := hr
  clear hr
  go_enter Tryd.func35, Tryd.ntmps35
  go_wp2
  go_quiet (fail)
  go_wp2
  go_ret
  exact ⟨by simp [H.out], _, rfl⟩
theorem turned_any (x : UInt32) (n : Int) (h1 : 1 ≤ n) (h2 : n ≤ 31) (w : World) :
    Calls Tryd.prog 33 #[.int .u32 (U x), .int .i64 n] w fun e w' => e = .returned (.int .u32 (U (rot x n.toNat))) ∧ ∃ m, w' = w.drewN m := by
  obtain ⟨n, rfl⟩ := Int.eq_ofNat_of_zero_le (show 0 ≤ n by omega)
  have hr := rot_walk x n
  rw [Int.toNat_natCast]
  have H : Hid _ := hr
  clear hr
  go_enter Tryd.func33, Tryd.ntmps33
  go_wp2
  go_quiet (fail)
  go_wp2
  go_ret
  exact ⟨by simp [H.out], _, rfl⟩
theorem three_any (x : UInt32) (a b c : Int) (ha : 1 ≤ a ∧ a ≤ 31) (hb : 1 ≤ b ∧ b ≤ 31) (hc : 1 ≤ c ∧ c ≤ 31) (w : World) :
    Calls Tryd.prog 37 #[.int .u32 (U x), .int .i64 a, .int .i64 b, .int .i64 c] w fun e w' => e = .returned (.int .u32 (U (rot3 x a.toNat b.toNat c.toNat))) ∧ ∃ m, w' = w.drewN m := by
  obtain ⟨ha1, ha2⟩ := ha
  obtain ⟨hb1, hb2⟩ := hb
  obtain ⟨hc1, hc2⟩ := hc
  go_enter Tryd.func37, Tryd.ntmps37
  go_wp2_with fail
  refine (turn_any x a ha1 ha2 _).mono ?_
  rintro e w1 ⟨rfl, m1, rfl⟩
  go_wp2_with fail
  refine (turn_any x b hb1 hb2 _).mono ?_
  rintro e w1 ⟨rfl, m2, rfl⟩
  go_wp2_with fail
  refine (turn_any x c hc1 hc2 _).mono ?_
  rintro e w1 ⟨rfl, m3, rfl⟩
  go_wp2
  go_ret
  exact ⟨rfl, _, rfl⟩
end Go.Proofs.YtpbahoapjkmcjaaDoor
