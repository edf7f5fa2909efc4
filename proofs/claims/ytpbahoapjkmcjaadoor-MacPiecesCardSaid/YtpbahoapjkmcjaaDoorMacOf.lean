/-
  mac.Of is the mac; the mac of the second law package that is known.
-/
import Derived.Test.YtpbahoapjkmcjaaDoorPen
namespace Go.Proofs.YtpbahoapjkmcjaaDoor
open Go.RowKit Go.Sha Go.Calm

set_option maxRecDepth 100000 in
set_option maxHeartbeats 400000 in
theorem macOf_any (key b : List UInt8) (kn n : Nat) (kp p : Option Addr) (kc c : Nat) (w : World) (hk : BytesOf w kp kn kc key) (hb : BytesOf w p n c b) (hlk : key.length < 35184372088832) (hlb : b.length < 17592186044416) (hK : HasK w) :
    Calls Tryd.prog 21 #[.slice kp kn kc, .slice p n c] w fun en w' => en = .returned (.agg (arr (macD key b))) ∧ Below w.heap.size w w' := by
  obtain rfl := hk.len
  have HKY := Calm.hid hk
  have HB := Calm.hid hb
  have HK := Calm.hid hK
  have HR : Hid (Rw (w.alloc (.cells #[.int .u8 0, .int .u8 0, .int .u8 0, .int .u8 0, .int .u8 0, .int .u8 0, .int .u8 0, .int .u8 0, .int .u8 0, .int .u8 0, .int .u8 0, .int .u8 0, .int .u8 0, .int .u8 0, .int .u8 0, .int .u8 0, .int .u8 0, .int .u8 0, .int .u8 0, .int .u8 0, .int .u8 0, .int .u8 0, .int .u8 0, .int .u8 0, .int .u8 0, .int .u8 0, .int .u8 0, .int .u8 0, .int .u8 0, .int .u8 0, .int .u8 0, .int .u8 0] 25)) w.heap.size (zero32.map bv) 25) := Rw.new w _ 25
  clear hk hb hK
  go_enter Tryd.func21, Tryd.ntmps21
  go_wp2_with fail
  have hal : ∀ o, Below w.heap.size w (w.alloc o) := fun o => (Below.refl _ _).alloc (Nat.le_refl _) _
  refine (penNew_any key kp kc _ (HKY.out.below (hal _)) hlk (HK.out.below (hal _))).mono ?_
  rintro en w2 ⟨⟨pb, hb, ob, left, rfl, hp⟩, hb2⟩
  rw [World.size_alloc] at hp
  have hm54 : (xorB 54 (pad64 (short key))).length = 64 := by rw [xorB_length, pad64_length (short_length key)]
  have HM54 := Calm.hid hm54
  clear hm54
  have HP2 := Calm.hid hp
  have HR2 := Calm.hid (HR.out.below hb2)
  have HB2 := Calm.hid ((hal _).trans (hb2.mono (by simp)))
  clear hp hb2 hal
  go_wp2_with fail
  refine (penWrite_any (w.heap.size + 1) pb hb ob left _ _ b n p c w2 HP2.out (HB.out.below HB2.out) (by rw [HM54.out]; omega) (fun ad had hpos e => ?_) (HK.out.below HB2.out) (by omega)).mono ?_
  · have h1 := HB.out.at_ ad had 0 (by have := HB.out.len; omega)
    have h2 := World.block_lt_of_cell? w _ h1
    have e2 : (ad.add 0).block = ad.block := by unfold Addr.add; split <;> rfl
    have h3 := HP2.out.hb_
    omega
  rintro en w3 ⟨rfl, left3, hp3, ht3, hl3⟩
  have hB3 : Below w.heap.size w w3 := ((Turns.of_below HB2.out).step ht3 (R := fun _ => False) (fun k hk e => by
    rcases e with e | e
    · have := HP2.out.hb_; omega
    · have := HP2.out.left_ k e; omega)).below (fun _ _ h => h)
  have hR3 := HR2.out.turns ht3 (fun e => by
    rcases e with e | e
    · have := HP2.out.hb_; omega
    · have := HP2.out.left_ _ e; omega)
  have HP3 := Calm.hid hp3
  have HB3 := Calm.hid hB3
  have HR3 := Calm.hid hR3
  clear hp3 ht3 hl3 hB3 hR3
  go_wp2_with fail
  refine (penSum_any (w.heap.size + 1) pb hb ob left3 _ _ w3 HP3.out (by rw [List.length_append, HM54.out]; omega) (HK.out.below HB3.out)).mono ?_
  rintro en w4 ⟨rfl, hb4⟩
  have HR4 := Calm.hid (HR3.out.below hb4)
  have HB4 := Calm.hid (HB3.out.trans (hb4.mono HB3.out.size))
  clear hb4
  go_wp2_with (refine wpList_store_rw rfl 25 (.tmp 4) (.tmp 12) rfl w.heap.size ((macD key b).map bv) rfl rfl 25 _ HR4.out (by rw [List.length_map, macD, digest_length]; kernel_rfl) (by rw [List.length_map, List.length_map, macD, digest_length]; rfl) (BytesOf.one _) ?_; intro w9 hr9 ht9; refine wpList_nil ?_)
  exact bodyPost_ret (results_cell_rw rfl rfl hr9 Tryd.underlying25 (by rw [List.length_map, macD, digest_length]; kernel_rfl)) rfl ⟨rfl, ((Turns.of_below HB4.out).step ht9 (fun b hb e => by omega)).below (fun _ _ h => h)⟩
end Go.Proofs.YtpbahoapjkmcjaaDoor
