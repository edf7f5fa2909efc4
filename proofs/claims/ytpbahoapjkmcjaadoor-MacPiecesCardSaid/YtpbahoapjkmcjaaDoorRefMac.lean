/-
  The document's own mac is the mac; two digests are the same just if they are alike.
-/
import Derived.Test.YtpbahoapjkmcjaaDoorRefBlk
namespace Go.Proofs.YtpbahoapjkmcjaaDoor
open Go.RowKit Go.Sha Go.Calm

theorem refBlock_n (xi : Int) (x : UInt8) (hx : xi = B8 x) (key : List UInt8) (n : Nat) (p : Option Addr) (c : Nat) (w : World) (hb : BytesOf w p n c key) (hlen : key.length < 35184372088832) :
    Calls Tryd.prog 32 #[.slice p n c, .int .u8 xi] w fun en w' => ∃ q cap, en = .returned (.slice q 64 cap) ∧ FL w (.slice q 64 cap) (xorB x (pad64 (short key))) w' := by
  obtain rfl := hb.len
  subst hx
  exact refBlock_any x key p c w hb hlen
theorem ofR_n (b : List UInt8) (n : Nat) (p : Option Addr) (cap : Nat) (w : World) (hs : BytesOf w p n cap b) (hlen : b.length < 35184372088832) :
    Calls Tryd.prog 15 #[.slice p n cap] w fun en w' => en = .returned (.agg (arr (digest b))) ∧ Below w.heap.size w w' := by
  obtain rfl := hs.len
  exact ofR_any b p cap w hs hlen
theorem block_length (x : UInt8) (key : List UInt8) : (xorB x (pad64 (short key))).length = 64 := by rw [xorB_length, pad64_length (short_length key)]
theorem FL.grown {w wr w2 : World} {t v2 : Value} {T X : List UInt8} (h : FL w t T wr) (hg : wr.grownBy w2 t.ownBlock) (ho : w2.ownsRow w.heap.size 5 1 v2 (T ++ X).length ((T ++ X).map bv)) :
    ∃ p2 c2, v2 = .slice p2 (T ++ X).length c2 ∧ FL w (.slice p2 (T ++ X).length c2) (T ++ X) w2 ∧ BytesOf w2 p2 (T ++ X).length c2 (T ++ X) := by
  obtain ⟨p2, c2, hv2, hby, _⟩ := BytesOf.own ho
  subst hv2
  have t1 : Turns (fun k => t.ownBlock = some k) wr w2 := Turns.of_grown (R := fun k => t.ownBlock = some k) hg (fun k hk _ => hk)
  exact ⟨p2, c2, rfl, ⟨ho, h.turns.step t1 (fun k hk e => by have := (h.own.lt k e).1; omega)⟩, hby⟩

set_option maxRecDepth 100000 in
set_option maxHeartbeats 1000000 in
theorem refMac_any (key b : List UInt8) (kn n : Nat) (kp p : Option Addr) (kc c : Nat) (w : World) (hk : BytesOf w kp kn kc key) (hb : BytesOf w p n c b) (hlk : key.length < 35184372088832) (hlb : b.length < 17592186044416) :
    Calls Tryd.prog 26 #[.slice kp kn kc, .slice p n c] w fun en w' => en = .returned (.agg (arr (macD key b))) ∧ Below w.heap.size w w' := by
  obtain ⟨i0, hi0, hz0, hz1, hz2⟩ := info_parts Tryd.info5
  have HKY := Calm.hid hk
  have HB := Calm.hid hb
  have HL54 := Calm.hid (block_length 54 key)
  have HL92 := Calm.hid (block_length 92 key)
  have HR : Hid (Rw (w.alloc (.cells #[.int .u8 0, .int .u8 0, .int .u8 0, .int .u8 0, .int .u8 0, .int .u8 0, .int .u8 0, .int .u8 0, .int .u8 0, .int .u8 0, .int .u8 0, .int .u8 0, .int .u8 0, .int .u8 0, .int .u8 0, .int .u8 0, .int .u8 0, .int .u8 0, .int .u8 0, .int .u8 0, .int .u8 0, .int .u8 0, .int .u8 0, .int .u8 0, .int .u8 0, .int .u8 0, .int .u8 0, .int .u8 0, .int .u8 0, .int .u8 0, .int .u8 0, .int .u8 0] 25)) w.heap.size (zero32.map bv) 25) := Rw.new w _ 25
  clear hk hb
  go_enter Tryd.func26, Tryd.ntmps26
  go_wp2_with fail
  have hal : ∀ o, Below w.heap.size w (w.alloc o) := fun o => (Below.refl _ _).alloc (Nat.le_refl _) _
  refine (refBlock_n 54 54 rfl key kn kp kc _ (HKY.out.below (hal _)) hlk).mono ?_
  rintro en w2 ⟨q, cap, rfl, hf2⟩
  have HF2 := Calm.hid hf2
  have HB2 := Calm.hid ((hal _).trans ((hf2.turns.below (fun _ _ h => h)).mono (by simp)))
  have HR2 := Calm.hid (HR.out.turns hf2.turns (fun h => h))
  have HO2 : Hid (w2.ownsRow (w.heap.size + 1) 5 1 (.slice q 64 cap) 64 ((xorB 54 (pad64 (short key))).map bv)) := by have := hf2.own; rw [HL54.out, World.size_alloc] at this; exact this
  have HBB := Calm.hid (HB.out.below HB2.out)
  clear hf2 hal
  go_wp2_with (at_builtin; go_loud (refine wpList_append_any rfl (.tmp 7) (.tmp 8) 22 rfl (w.heap.size + 1) 5 i0 (.int .u8 0) 1 1 Tryd.underlying22 hi0 hz0 hz1 hz2 rfl (by decide) _ _ _ rfl HO2.out p n c (b.map bv) rfl (by rw [List.length_map, HB.out.len, Nat.mul_one]) HBB.out.nil HBB.out.news (BytesOf.one _) ?_ ?_ ?_ ?_))
  case refine_1 => have := HB.out.len; simp [maxLen]; omega
  case refine_2 => have := HB.out.len; simp; omega
  case refine_3 => have := HR2.out.lt; omega
  intro v3 w3 hown3 hg3
  have hl3 : (xorB 54 (pad64 (short key)) ++ b).length = 64 + n := by rw [List.length_append, HL54.out, HB.out.len]
  obtain ⟨p3, c3, hv3, hf3, hby3⟩ := HF2.out.grown (X := b) hg3 (by rw [hl3, World.size_alloc, List.map_append]; exact hown3)
  rw [hl3] at hv3 hby3
  subst hv3
  have HB3 := Calm.hid ((((Below.refl _ _).alloc (Nat.le_refl _) _).trans ((hf3.turns.below (fun _ _ h => h)).mono (by simp))) : Below w.heap.size w w3)
  have HR3 := Calm.hid (HR.out.turns hf3.turns (fun h => h))
  have HY3 := Calm.hid hby3
  have HL3 := Calm.hid hl3
  clear hown3 hg3 hf3 hby3 hl3
  go_wp2_with fail
  refine (ofR_n (xorB 54 (pad64 (short key)) ++ b) (64 + n) p3 c3 w3 HY3.out (by rw [HL3.out, ← HB.out.len]; omega)).mono ?_
  rintro en w4 ⟨rfl, hb4⟩
  have HB4 := Calm.hid (HB3.out.trans (hb4.mono HB3.out.size))
  have HR4 := Calm.hid (HR3.out.below hb4)
  clear hb4
  obtain ⟨dd, hdd⟩ : ∃ dd, dd = digest (xorB 54 (pad64 (short key)) ++ b) := ⟨_, rfl⟩
  have HDL : Hid (dd.length = 32) := by show dd.length = 32; rw [hdd, digest_length]
  rw [← hdd]
  have HDD := Calm.hid hdd
  clear hdd
  have HZ4 : Hid (Rw (w4.alloc (.cells #[.int .u8 0, .int .u8 0, .int .u8 0, .int .u8 0, .int .u8 0, .int .u8 0, .int .u8 0, .int .u8 0, .int .u8 0, .int .u8 0, .int .u8 0, .int .u8 0, .int .u8 0, .int .u8 0, .int .u8 0, .int .u8 0, .int .u8 0, .int .u8 0, .int .u8 0, .int .u8 0, .int .u8 0, .int .u8 0, .int .u8 0, .int .u8 0, .int .u8 0, .int .u8 0, .int .u8 0, .int .u8 0, .int .u8 0, .int .u8 0, .int .u8 0, .int .u8 0] 25)) w4.heap.size (zero32.map bv) 25) := Rw.new w4 _ 25
  go_wp2_with (refine wpList_store_rw rfl 25 (.tmp 5) (.tmp 10) rfl w4.heap.size (dd.map bv) rfl rfl 25 _ HZ4.out (by rw [List.length_map, HDL.out]; kernel_rfl) (by rw [List.length_map, List.length_map, HDL.out]; rfl) (BytesOf.one _) ?_; intro w5 hr5 ht5; refine wpList_nil ?_)
  have HB5 := Calm.hid (HB4.out.trans ((new_stored ht5).mono HB4.out.size))
  have HR5 := Calm.hid (HR4.out.below (new_stored ht5))
  have HD5 := Calm.hid hr5
  clear hr5 ht5
  go_frame
  refine Calm.region_sb w.heap.size [true, false, true, false, false, false] (by kernel_rfl) (by kernel_rfl) ?_
  simp only [Calm.heads, Calm.tails]
  repeat (go_big_quiet_step (fail))
  refine wpQuiet_nil ?_
  refine wpC_step ?_
  go_wp2_with fail
  refine (refBlock_n 92 92 rfl key kn kp kc w5.drew ((HKY.out.below HB5.out).drewN 1) hlk).mono ?_
  rintro en w6 ⟨q6, cap6, rfl, hf6⟩
  have HB56 : Hid (Below w5.heap.size w5 w6) := (show Below w5.heap.size w5 w5.drew from (Below.refl _ _).drew).trans (hf6.turns.below (fun _ _ h => h))
  have HO6 : Hid (w6.ownsRow w5.heap.size 5 1 (.slice q6 64 cap6) 64 ((xorB 92 (pad64 (short key))).map bv)) := by have := hf6.own; rw [HL92.out] at this; exact this
  have HF6 := Calm.hid hf6
  have hs5 := HB5.out.size
  have HD6 : Hid (BytesOf w6 (some ⟨w4.heap.size, 0, none⟩) 32 32 dd) := rw_bytes (HD5.out.below HB56.out) HDL.out (Nat.le_refl _) (by decide)
  clear hf6
  go_wp2
  refine ⟨⟨⟨w6, HB56.out.mono hs5⟩, rfl⟩, ?_⟩
  refine wpC_step (wpList_append_any rfl (.tmp 12) (.tmp 13) 22 rfl w5.heap.size 5 i0 (.int .u8 0) 1 1 Tryd.underlying22 hi0 hz0 hz1 hz2 rfl (by decide) _ _ _ rfl HO6.out (some ⟨w4.heap.size, 0, none⟩) 32 32 (dd.map bv) rfl (by rw [List.length_map, HDL.out]) HD6.out.nil HD6.out.news (BytesOf.one _) ?_ ?_ ?_ ?_)
  · simp [maxLen]
  · simp
  · exact HB56.out.size
  intro v7 w7 hown7 hg7
  have hl7 : (xorB 92 (pad64 (short key)) ++ dd).length = 96 := by rw [List.length_append, HL92.out, HDL.out]
  obtain ⟨p7, c7, hv7, hf7, hby7⟩ := HF6.out.grown (X := dd) hg7 (by rw [hl7, List.map_append]; exact hown7)
  rw [hl7] at hv7 hby7
  have HB57 : Hid (Below w5.heap.size w5 w7) := (show Below w5.heap.size w5 w5.drew from (Below.refl _ _).drew).trans (hf7.turns.below (fun _ _ h => h))
  have HY7 := Calm.hid hby7
  have HL7 := Calm.hid hl7
  clear hown7 hg7 hf7 hby7 hl7
  refine wpList_nil ⟨rfl, rfl, ⟨⟨_, HB57.out.mono hs5⟩, rfl⟩, ?_⟩
  subst hv7
  refine wpC_step ?_
  go_wp2_with fail
  refine (ofR_n (xorB 92 (pad64 (short key)) ++ dd) 96 p7 c7 w7 HY7.out (by rw [HL7.out]; omega)).mono ?_
  rintro en w8 ⟨rfl, hb8⟩
  have HB8 := Calm.hid ((HB57.out.mono hs5).trans (hb8.mono (Nat.le_trans hs5 HB57.out.size)))
  have HR8 := Calm.hid (HR5.out.below (HB57.out.trans (hb8.mono HB57.out.size)))
  clear hb8
  go_wp2
  refine ⟨⟨⟨w8, HB8.out⟩, rfl⟩, ?_⟩
  have HM : Hid (digest (xorB 92 (pad64 (short key)) ++ dd) = macD key b) := by show _ = _; rw [HDD.out, macD]
  rw [HM.out]
  refine wpC_step (wpList_store_rw rfl 25 (.tmp 4) (.tmp 15) rfl w.heap.size ((macD key b).map bv) rfl rfl 25 _ HR8.out (by rw [List.length_map, macD, digest_length]; kernel_rfl) (by rw [List.length_map, List.length_map, macD, digest_length]; rfl) (BytesOf.one _) ?_)
  intro w9 hr9 ht9
  have hb9 : Below w.heap.size w5 w9 := HB8.out.trans ((ht9.mono (R := fun k => w.heap.size ≤ k) (fun k _ e => Nat.le_of_eq e.symm)) |> fun h => ⟨h.os, h.tape, h.output, h.size, fun k hk => h.block k (Nat.lt_of_lt_of_le (Nat.lt_of_lt_of_le hk hs5) HB8.out.size) (by omega)⟩)
  refine wpList_nil ⟨rfl, rfl, ⟨⟨w9, hb9⟩, rfl⟩, ?_⟩
  refine wpC_nil ?_
  go_frame
  go_wp2
  exact bodyPost_ret (results_cell_rw rfl rfl hr9 Tryd.underlying25 (by rw [List.length_map, macD, digest_length]; kernel_rfl)) rfl ⟨rfl, HB5.out.trans hb9⟩
end Go.Proofs.YtpbahoapjkmcjaaDoor
