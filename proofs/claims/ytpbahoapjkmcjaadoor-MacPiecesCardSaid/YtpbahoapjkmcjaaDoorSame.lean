/-
  Two digests are the same just if they are alike.
-/
import Derived.Test.YtpbahoapjkmcjaaDoorRefMac
namespace Go.Proofs.YtpbahoapjkmcjaaDoor
open Go.RowKit Go.Sha Go.Calm
attribute [local go_sem] u8_bits_xor u8_bits_or

/-- What the bits that part come to, over the first i places. -/
def parts (a b : List UInt8) : Nat → UInt8
  | 0 => 0
  | i + 1 => parts a b i ||| (a.getD i 0 ^^^ b.getD i 0)
theorem or_zero_iff (x y : UInt8) : (x ||| y = 0) ↔ (x = 0 ∧ y = 0) := by
  constructor
  · intro h
    have h' : x.toNat ||| y.toNat = 0 := by rw [← UInt8.toNat_or, h]; rfl
    have := Nat.or_eq_zero_iff.1 h'
    exact ⟨UInt8.toNat_inj.1 this.1, UInt8.toNat_inj.1 this.2⟩
  · rintro ⟨rfl, rfl⟩; rfl
theorem xor_zero_iff (x y : UInt8) : (x ^^^ y = 0) ↔ x = y := UInt8.xor_eq_zero_iff
theorem parts_zero (a b : List UInt8) : ∀ n, (parts a b n = 0) ↔ ∀ j, j < n → a.getD j 0 = b.getD j 0
  | 0 => by simp [parts]
  | n + 1 => by
    rw [parts, or_zero_iff, parts_zero a b n, xor_zero_iff]
    constructor
    · rintro ⟨h1, h2⟩ j hj
      by_cases h : j = n
      · rw [h]; exact h2
      · exact h1 j (by omega)
    · intro h; exact ⟨fun j hj => h j (by omega), h n (by omega)⟩
theorem parts_eq {a b : List UInt8} (ha : a.length = 32) (hb : b.length = 32) : (parts a b 32 = 0) ↔ a = b := by
  rw [parts_zero]
  constructor
  · intro h
    apply List.ext_getElem (by omega)
    intro i h1 h2
    have := h i (by omega)
    simpa [List.getD_eq_getElem?_getD, h1, h2] using this
  · rintro rfl; intros; rfl
theorem b8_zero_beq (x : UInt8) : (B8 x == 0) = decide (x = 0) := by
  by_cases h : x = 0
  · subst h; rfl
  · have : B8 x ≠ 0 := fun e => h (B8_inj e)
    simp [h, this]

set_option maxRecDepth 100000 in
set_option maxHeartbeats 1000000 in
theorem same_any (a b : List UInt8) (ha : a.length = 32) (hb : b.length = 32) (w : World) :
    Calls Tryd.prog 27 #[.agg (arr a), .agg (arr b)] w fun en w' => en = .returned (.bool (decide (a = b))) ∧ Below w.heap.size w w' := by
  obtain ⟨A, hA⟩ : ∃ A, A = arr a := ⟨_, rfl⟩
  obtain ⟨B, hB⟩ : ∃ B, B = arr b := ⟨_, rfl⟩
  have hra : Rw ((w.alloc (.cells A 25)).alloc (.cells B 25)) w.heap.size (a.map bv) 25 := by rw [hA]; exact (two_new w 25 _ _).1
  have hrb : Rw ((w.alloc (.cells A 25)).alloc (.cells B 25)) (w.heap.size + 1) (b.map bv) 25 := by rw [hB]; exact (two_new w 25 _ _).2
  have hbel : Below w.heap.size w ((w.alloc (.cells A 25)).alloc (.cells B 25)) := ((Below.refl _ _).alloc (Nat.le_refl _) _).alloc (by simp) _
  obtain ⟨w2, hw2⟩ : ∃ w2, w2 = (w.alloc (.cells A 25)).alloc (.cells B 25) := ⟨_, rfl⟩
  rw [← hw2] at hra hrb hbel
  have HRA := Calm.hid hra
  have HRB := Calm.hid hrb
  have HBE := Calm.hid hbel
  have HW2 := Calm.hid hw2
  rw [← hA, ← hB]
  clear hA hB hra hrb hbel hw2
  go_enter Tryd.func27, Tryd.ntmps27
  go_wp2
  rw [← HW2.out]
  go_loopw [7, 5] (fun t x wr => ∃ i : Nat, i ≤ 32 ∧ t = .int .i64 i ∧ x = .int .u8 (B8 (parts a b i)) ∧ ∃ k, wr = w2.drewN k) (fun t _ _ => 32 - (intOf t).toNat)
  case atStart => exact ⟨0, by omega, rfl, rfl, 0, rfl⟩
  case round =>
    obtain ⟨i, hi, rfl, rfl, k, rfl⟩ := hrel
    by_cases hlt : i < 32
    · obtain ⟨x, hx⟩ : ∃ x, x = a.getD i 0 := ⟨_, rfl⟩
      obtain ⟨y, hy⟩ : ∃ y, y = b.getD i 0 := ⟨_, rfl⟩
      have c1 : w2.cell? ⟨w.heap.size, i, none⟩ = some (bv x) := HRA.out.cell (by rw [hx]; simp [ha, hlt])
      have c2 : w2.cell? ⟨w.heap.size + 1, i, none⟩ = some (bv y) := HRB.out.cell (by rw [hy]; simp [hb, hlt])
      obtain ⟨z, hz⟩ : ∃ z, z = parts a b i := ⟨_, rfl⟩
      have HS : Hid (parts a b (i + 1) = z ||| (x ^^^ y)) := by show parts a b (i + 1) = z ||| (x ^^^ y); rw [parts, hz, hx, hy]
      rw [← hz]
      clear hx hy hz
      go_wp2
      refine Calm.region_d 9 (by kernel_rfl) (by kernel_rfl) ?_
      simp only [List.take_succ_cons, List.take_zero, List.drop_succ_cons, List.drop_zero]
      repeat (go_big_quiet_step (fail))
      refine wpQuiet_nil ?_
      rintro _ ⟨nq, rfl⟩
      go_wp2
      go_roundw
      case rel => exact ⟨i + 1, by omega, by go_num, by rw [HS.out], k + nq, rfl⟩
      case measure => simp [intOf]; omega
    · have HI : Hid (i = 32) := show i = 32 by omega
      rw [HI.out]
      obtain ⟨z, hz⟩ : ∃ z, z = parts a b 32 := ⟨_, rfl⟩
      have HZ : Hid ((B8 z == 0) = decide (a = b)) := by
        show (B8 z == 0) = decide (a = b)
        rw [b8_zero_beq, hz]
        exact decide_eq_decide.2 (parts_eq ha hb)
      rw [← hz]
      clear hz
      go_wp2
      go_ret
      exact ⟨by rw [← HZ.out]; rfl, (show Below w.heap.size w (w2.drewN k) from ⟨HBE.out.os, HBE.out.tape, HBE.out.output, HBE.out.size, HBE.out.block⟩)⟩
end Go.Proofs.YtpbahoapjkmcjaaDoor
