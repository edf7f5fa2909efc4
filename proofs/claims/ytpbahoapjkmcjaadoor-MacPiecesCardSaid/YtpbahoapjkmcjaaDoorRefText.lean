/-
  The document's own text of a digest is its text.
-/
import Derived.Test.YtpbahoapjkmcjaaDoorRefOf
namespace Go.Proofs.YtpbahoapjkmcjaaDoor
open Go.RowKit Go.Sha Go.Calm
theorem str_add (a b : List UInt8) : (⟨a.toArray⟩ : ByteArray) ++ ⟨b.toArray⟩ = ⟨(a ++ b).toArray⟩ := by
  apply ByteArray.ext
  simp
theorem pair_str (x y : UInt8) (w : World) : (convert 22 9 (.slice (some ⟨w.heap.size, 0, none⟩) 2 2)).run Tryd.prog (w.alloc (.cells #[bv x, bv y] 5)).drew = .ok (.string ⟨[x, y].toArray⟩) (w.alloc (.cells #[bv x, bv y] 5)).drew :=
  ((lit_bytes w [x, y] (0, 0) (by simp [maxLen])).drewN 1).str Tryd.underlying22 Tryd.underlying5 Tryd.underlying9

set_option maxRecDepth 100000 in
set_option maxHeartbeats 400000 in
theorem textR_any (d : List UInt8) (hd : d.length = 32) (w : World) : Calls Tryd.prog 17 #[.agg (arr d)] w fun en w' => en = .returned (.string ⟨(hexOf d).toArray⟩) ∧ Below w.heap.size w w' := by
  obtain ⟨x0, hx0⟩ : ∃ x0, x0 = arr d := ⟨_, rfl⟩
  have HX := Calm.hid hx0
  rw [← hx0]
  have hrow : Rw (w.alloc (.cells x0 25)) w.heap.size (d.map bv) 25 := by rw [hx0]; exact Rw.new w _ 25
  have HR := Calm.hid hrow
  clear hx0 hrow
  go_enter Tryd.func17, Tryd.ntmps17
  go_wp2
  go_loopw [4, 3] (fun c t wr => ∃ (i : Nat), i ≤ 32 ∧ c = .int .i64 i ∧ t = .string ⟨(hexOf (d.take i)).toArray⟩ ∧ Below w.heap.size w wr ∧ Rw wr w.heap.size (d.map bv) 25) (fun c _ _ => 32 - (intOf c).toNat)
  case atStart => exact ⟨0, by omega, rfl, rfl, (Below.refl _ _).alloc (Nat.le_refl _) _, HR.out⟩
  case round =>
    obtain ⟨i, hi, rfl, rfl, hb, hr⟩ := hrel
    by_cases hlt : i < 32
    · obtain ⟨c, hc⟩ : ∃ c, c = d.getD i 0 := ⟨_, rfl⟩
      have c0 : ∀ k : Kept wr, k.world.cell? ⟨w.heap.size, i, none⟩ = some (bv c) := fun k => by
        rw [hc]
        refine (hr.below k.below).cell ?_
        simp [show i < d.length by omega]
      have HC := Calm.hid hc
      have hb0 := B8_nonneg c
      have hb1 := B8_lt c
      have hx2 := fun w => hex_at (B8 c / 16) (by omega) (by omega) w
      have hx3 := fun w => hex_at (B8 c % 16) (by omega) (by omega) w
      obtain ⟨y1, hy1⟩ : ∃ y, y = hexd (B8 c / 16).toNat := ⟨_, rfl⟩
      obtain ⟨y2, hy2⟩ : ∃ y, y = hexd (B8 c % 16).toNat := ⟨_, rfl⟩
      rw [← hy1] at hx2
      rw [← hy2] at hx3
      have HY1 := Calm.hid hy1
      have HY2 := Calm.hid hy2
      have hcv := pair_str y1 y2 wr
      obtain ⟨s0, hs0⟩ : ∃ s0 : ByteArray, s0 = ⟨(hexOf (d.take i)).toArray⟩ := ⟨_, rfl⟩
      have HS0 := Calm.hid hs0
      have hsz : s0.size = 2 * i := by rw [hs0]; show (hexOf (d.take i)).toArray.size = 2 * i; rw [List.size_toArray, hexOf_length, List.length_take]; omega
      rw [← hs0]
      have HBB := Calm.hid hb
      have HRR := Calm.hid hr
      clear hc hy1 hy2 hs0 hb hr
      go_wp2
      refine Calm.region_sk [true, true, true, true, true, true, true, true, true, true, true, false, false, false, false] (by kernel_rfl) (by kernel_rfl) ?_
      simp only [Calm.heads, Calm.tails]
      repeat (go_big_quiet_step (fail))
      refine wpQuiet_nil ?_
      clear c0
      refine wpC_step ?_
      go_wp2
      refine ⟨⟨⟨_, ((Below.refl _ _).alloc (Nat.le_refl _) _).drew⟩, rfl⟩, ?_⟩
      refine wpC_step ?_
      go_wp2
      refine ⟨⟨⟨_, ((Below.refl _ _).alloc (Nat.le_refl _) _).drew⟩, rfl⟩, ?_⟩
      refine wpC_step ?_
      go_wp2
      refine ⟨⟨⟨_, ((Below.refl _ _).alloc (Nat.le_refl _) _).drew⟩, rfl⟩, ?_⟩
      refine wpC_step ?_
      go_wp2
      refine ⟨⟨⟨_, ((Below.refl _ _).alloc (Nat.le_refl _) _).drew⟩, rfl⟩, ?_⟩
      refine wpC_nil ?_
      go_wp2
      go_roundw
      case rel => exact ⟨i + 1, by omega, by go_num, by rw [HS0.out, str_add, HY1.out, HY2.out, ← hexOf_take (by omega) HC.out], HBB.out.trans (((Below.refl _ _).alloc HBB.out.size _).drew), (HRR.out.alloc _).drew⟩
      case measure => simp [intOf]; omega
    · have HI : Hid (i = 32) := show i = 32 by omega
      obtain ⟨s0, hs0⟩ : ∃ s0 : ByteArray, s0 = ⟨(hexOf (d.take i)).toArray⟩ := ⟨_, rfl⟩
      have HS0 := Calm.hid hs0
      rw [← hs0]
      have HBB := Calm.hid hb
      clear hs0 hb hr
      go_wp2
      go_ret
      exact ⟨by rw [HS0.out, HI.out, List.take_of_length_le (by omega)]; rfl, HBB.out⟩
end Go.Proofs.YtpbahoapjkmcjaaDoor
