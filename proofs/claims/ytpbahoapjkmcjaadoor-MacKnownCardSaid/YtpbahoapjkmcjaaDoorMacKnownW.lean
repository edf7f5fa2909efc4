/-
  The macs that are known: under 20 bytes, and under 131 bytes: the walk of MacKnown.
-/
import Derived.Test.YtpbahoapjkmcjaaDoorMacWakes
namespace Go.Proofs.YtpbahoapjkmcjaaDoor
open Go.RowKit Go.Sha Go.Calm
def hiThere : List UInt8 := [72, 105, 32, 84, 104, 101, 114, 101]
def largerKey : List UInt8 := [84, 101, 115, 116, 32, 85, 115, 105, 110, 103, 32, 76, 97, 114, 103, 101, 114, 32, 84, 104, 97, 110, 32, 66, 108, 111, 99, 107, 45, 83, 105, 122, 101, 32, 75, 101, 121, 32, 45, 32, 72, 97, 115, 104, 32, 75, 101, 121, 32, 70, 105, 114, 115, 116]
theorem hi_text : hexOf (macD (List.replicate 20 11) hiThere) = [98, 48, 51, 52, 52, 99, 54, 49, 100, 56, 100, 98, 51, 56, 53, 51, 53, 99, 97, 56, 97, 102, 99, 101, 97, 102, 48, 98, 102, 49, 50, 98, 56, 56, 49, 100, 99, 50, 48, 48, 99, 57, 56, 51, 51, 100, 97, 55, 50, 54, 101, 57, 51, 55, 54, 99, 50, 101, 51, 50, 99, 102, 102, 55] := by decide +kernel
theorem larger_text : hexOf (macD (List.replicate 131 170) largerKey) = [54, 48, 101, 52, 51, 49, 53, 57, 49, 101, 101, 48, 98, 54, 55, 102, 48, 100, 56, 97, 50, 54, 97, 97, 99, 98, 102, 53, 98, 55, 55, 102, 56, 101, 48, 98, 99, 54, 50, 49, 51, 55, 50, 56, 99, 53, 49, 52, 48, 53, 52, 54, 48, 52, 48, 102, 48, 101, 101, 51, 55, 102, 53, 52] := by decide +kernel

/-- A row of which the first i bytes are x. -/
structure FB (g n : Nat) (x : UInt8) (i : Nat) (wr : World) : Prop where
  row : Rw wr g ((List.replicate i x ++ List.replicate (n - i) 0).map bv) 5
theorem FB.at_ {wr : World} {g n i : Nat} {x : UInt8} (h : FB g n x i wr) (hi : i < n) : wr.cell? ⟨g, i, none⟩ = some (.int .u8 0) := by
  refine h.row.cell ?_
  rw [List.getElem?_map, List.getElem?_append_right (by simp), List.length_replicate, List.getElem?_replicate_of_lt (by omega)]
  rfl
theorem FB.step {wr : World} {g n i : Nat} {x : UInt8} (h : FB g n x i wr) (hi : i < n) : FB g n x (i + 1) (wr.setCell ⟨g, i, none⟩ (bv x)) := by
  refine ⟨?_⟩
  have := h.row.set i (bv x)
  rw [← List.map_set, List.set_append_right _ _ (by simp), List.length_replicate, Nat.sub_self, show n - i = (n - (i + 1)) + 1 by omega, List.replicate_succ, List.set_cons_zero] at this
  rw [List.replicate_succ', List.append_assoc]
  exact this
theorem FB.other {wr : World} {g n i : Nat} {x : UInt8} (h : FB g n x i wr) {a : Addr} (ha : g ≠ a.block) (v : Value) : FB g n x i (wr.setCell a v) := ⟨h.row.set_other ha v⟩
theorem FB.done {wr : World} {g n i : Nat} {x : UInt8} (h : FB g n x i wr) (hi : i = n) (hm : n ≤ maxLen) : BytesOf wr (some ⟨g, 0, none⟩) n n (List.replicate n x) := by
  have := h.row
  rw [hi, Nat.sub_self, List.replicate_zero, List.append_nil] at this
  exact rw_bytes this (List.length_replicate ..) (Nat.le_refl _) hm

set_option maxRecDepth 100000 in
set_option maxHeartbeats 1000000 in
theorem macKnown_walk (w : World) (hK : HasK w) : Calls Tryd.prog 8 #[] w fun en w' => en = .returned (.bool true) ∧ Below w.heap.size w w' := by
  obtain ⟨i0, hi0, hz0, hz1, hz2⟩ := info_parts Tryd.info5
  have HK := Calm.hid hK
  have HT1 := Calm.hid hi_text
  have HT2 := Calm.hid larger_text
  clear hK
  have kc := fun (w : World) (C : Array Value) (n c : Nat) => Lib.run_convert_bytes_const (P := Tryd.prog) w 22 5 C n c Tryd.underlying22 Tryd.underlying5
  obtain ⟨Y, hY⟩ : ∃ Y, Y = madeCells #[.int .u8 0] 20 := ⟨_, rfl⟩
  obtain ⟨Z, hZ⟩ : ∃ Z, Z = madeCells #[.int .u8 0] 131 := ⟨_, rfl⟩
  have hf1 : FB w.heap.size 20 11 0 ((w.alloc (.cells Y 5)).alloc (.cells Z 5)) := by
    refine ⟨?_⟩
    have := (Rw.new w Y 5).alloc (.cells Z 5)
    rw [hY, made_one] at this
    show Rw _ _ ((List.replicate 20 (0 : UInt8)).map bv) 5
    rw [List.map_replicate, hY]; exact this
  have hf2 : FB (w.heap.size + 1) 131 170 0 ((w.alloc (.cells Y 5)).alloc (.cells Z 5)) := by
    refine ⟨?_⟩
    have := Rw.new (w.alloc (.cells Y 5)) Z 5
    rw [World.size_alloc, hZ, made_one] at this
    show Rw _ _ ((List.replicate 131 (0 : UInt8)).map bv) 5
    rw [List.map_replicate, hZ]; exact this
  have hbel : Below w.heap.size w ((w.alloc (.cells Y 5)).alloc (.cells Z 5)) := ((Below.refl _ _).alloc (Nat.le_refl _) _).alloc (by simp) _
  have HY := Calm.hid hY
  have HZ := Calm.hid hZ
  have HF1 := Calm.hid hf1
  have HF2 := Calm.hid hf2
  have HBE := Calm.hid hbel
  clear hY hZ hf1 hf2 hbel
  go_enter Tryd.func8, Tryd.ntmps8
  go_wp2_with (first
    | (refine wpList_make_row _ rfl (.const (.int .i64 20)) (.const (.int .i64 20)) 22 rfl 5 i0 (.int .u8 0) Tryd.underlying22 hi0 hz0 hz1 rfl .i64 .i64 20 rfl rfl (by rw [hz2]; decide) (by decide) ?_; rw [← HY.out])
    | (refine wpList_make_row _ rfl (.const (.int .i64 131)) (.const (.int .i64 131)) 22 rfl 5 i0 (.int .u8 0) Tryd.underlying22 hi0 hz0 hz1 rfl .i64 .i64 131 rfl rfl (by rw [hz2]; decide) (by decide) ?_; rw [← HZ.out]))
  go_loopw [3] (fun t wr => ∃ i : Nat, i ≤ 131 ∧ t = .int .i64 i ∧ FB w.heap.size 20 11 (min i 20) wr ∧ FB (w.heap.size + 1) 131 170 i wr ∧ Turns (fun _ => False) w wr) (fun t _ => 131 - (intOf t).toNat)
  case atStart => exact ⟨0, by omega, rfl, HF1.out, HF2.out, Turns.of_below HBE.out⟩
  case round =>
    obtain ⟨i, hi, rfl, hA, hB, hT⟩ := hrel
    by_cases hlt : i < 131
    · have c0 := hB.at_ hlt
      have f0 := hB.row.free i
      have HT := Calm.hid hT
      have HA := Calm.hid hA
      have HB := Calm.hid hB
      clear hA hB hT HF1 HF2
      by_cases h20 : i < 20
      · have c1 := ((HA.out.other (a := ⟨w.heap.size + 1, i, none⟩) (by simp) (.int .u8 170)).at_ (i := min i 20) (by omega))
        have f1 := (HA.out.other (a := ⟨w.heap.size + 1, i, none⟩) (by simp) (.int .u8 170)).row.free i
        rw [Nat.min_eq_left (by omega)] at c1
        go_wp2
        go_roundw
        case rel =>
          refine ⟨i + 1, by omega, by go_num, ?_, ?_, ?_⟩
          · have h1 := (HA.out.other (a := ⟨w.heap.size + 1, i, none⟩) (by simp) (.int .u8 170)).step (by omega)
            rw [Nat.min_eq_left (show i + 1 ≤ 20 by omega)]
            rw [Nat.min_eq_left (show i ≤ 20 by omega)] at h1
            exact h1
          · exact (HB.out.step hlt).other (by simp) _
          · exact (HT.out.setCell (fun h => by simp at h; omega) _).setCell (fun h => by simp at h) _
        case measure => simp [intOf]; omega
      · go_wp2
        go_roundw
        case rel =>
          refine ⟨i + 1, by omega, by go_num, ?_, ?_, ?_⟩
          · have h1 := HA.out.other (a := ⟨w.heap.size + 1, i, none⟩) (by simp) (.int .u8 170)
            rw [Nat.min_eq_right (show 20 ≤ i + 1 by omega)]
            rw [Nat.min_eq_right (show 20 ≤ i by omega)] at h1
            exact h1
          · exact HB.out.step hlt
          · exact HT.out.setCell (fun h => by simp at h; omega) _
        case measure => simp [intOf]; omega
    · have HI : Hid (i = 131) := show i = 131 by omega
      rw [HI.out] at hA hB
      have HA : Hid (BytesOf wr (some ⟨w.heap.size, 0, none⟩) 20 20 (List.replicate 20 11)) := hA.done (by decide) (by decide)
      have HB : Hid (BytesOf wr (some ⟨w.heap.size + 1, 0, none⟩) 131 131 (List.replicate 131 170)) := hB.done rfl (by decide)
      have HT := Calm.hid hT
      have HKw := Calm.hid (HK.out.turns HT.out (fun h => h))
      clear hA hB hT HF1 HF2
      obtain ⟨k1, hk1⟩ : ∃ k, k = List.replicate 20 (11 : UInt8) := ⟨_, rfl⟩
      obtain ⟨k2, hk2⟩ : ∃ k, k = List.replicate 131 (170 : UInt8) := ⟨_, rfl⟩
      have HL1 : Hid (k1.length = 20) := by show k1.length = 20; rw [hk1, List.length_replicate]
      have HL2 : Hid (k2.length = 131) := by show k2.length = 131; rw [hk2, List.length_replicate]
      rw [← hk1] at HA HT1
      rw [← hk2] at HB HT2
      clear hk1 hk2
      go_wp2_with fail
      have h1 := lit_bytes wr hiThere (8, 9) (by decide)
      have e1 : (#[.int .u8 72, .int .u8 105, .int .u8 32, .int .u8 84, .int .u8 104, .int .u8 101, .int .u8 114, .int .u8 101] : Array Value) = (hiThere.map bv).toArray := by kernel_rfl
      rw [e1]
      have HB1 : Hid (Below wr.heap.size wr (wr.alloc (.cells (hiThere.map bv).toArray 5 (8, 9)))) := (Below.refl _ _).alloc (Nat.le_refl _) _
      have H1 := Calm.hid h1
      clear e1 h1
      refine (macOf_any k1 hiThere 20 8 _ _ _ _ _ (HA.out.below HB1.out) H1.out (by rw [HL1.out]; decide) (by decide) (HKw.out.below HB1.out)).mono ?_
      rintro en w2 ⟨rfl, hb2⟩
      have HB2 := Calm.hid (HB1.out.trans (hb2.mono HB1.out.size))
      clear hb2
      go_wp2_with fail
      refine (textR_any (macD k1 hiThere) (digest_length _) _).mono ?_
      rintro en w3 ⟨rfl, hb3⟩
      have HB3 := Calm.hid (HB2.out.trans (hb3.mono HB2.out.size))
      clear hb3
      rw [HT1.out]
      go_wp2_with fail
      have h2 := lit_bytes w3 largerKey (54, 55) (by decide)
      have e2 : (#[.int .u8 84, .int .u8 101, .int .u8 115, .int .u8 116, .int .u8 32, .int .u8 85, .int .u8 115, .int .u8 105, .int .u8 110, .int .u8 103, .int .u8 32, .int .u8 76, .int .u8 97, .int .u8 114, .int .u8 103, .int .u8 101, .int .u8 114, .int .u8 32, .int .u8 84, .int .u8 104, .int .u8 97, .int .u8 110, .int .u8 32, .int .u8 66, .int .u8 108, .int .u8 111, .int .u8 99, .int .u8 107, .int .u8 45, .int .u8 83, .int .u8 105, .int .u8 122, .int .u8 101, .int .u8 32, .int .u8 75, .int .u8 101, .int .u8 121, .int .u8 32, .int .u8 45, .int .u8 32, .int .u8 72, .int .u8 97, .int .u8 115, .int .u8 104, .int .u8 32, .int .u8 75, .int .u8 101, .int .u8 121, .int .u8 32, .int .u8 70, .int .u8 105, .int .u8 114, .int .u8 115, .int .u8 116] : Array Value) = (largerKey.map bv).toArray := by kernel_rfl
      rw [e2]
      have HB4 : Hid (Below wr.heap.size wr (w3.alloc (.cells (largerKey.map bv).toArray 5 (54, 55)))) := HB3.out.alloc HB3.out.size _
      have H2 := Calm.hid h2
      clear e2 h2
      refine (macOf_any k2 largerKey 131 54 _ _ _ _ _ (HB.out.below HB4.out) H2.out (by rw [HL2.out]; decide) (by decide) (HKw.out.below HB4.out)).mono ?_
      rintro en w5 ⟨rfl, hb5⟩
      have HB5 := Calm.hid (HB4.out.trans (hb5.mono HB4.out.size))
      clear hb5
      go_wp2_with fail
      refine (textR_any (macD k2 largerKey) (digest_length _) _).mono ?_
      rintro en w6 ⟨rfl, hb6⟩
      have HB6 := Calm.hid (HB5.out.trans (hb6.mono HB5.out.size))
      clear hb6
      rw [HT2.out]
      go_wp2_with fail
      refine (wakes2_any w6 (HKw.out.below HB6.out)).mono ?_
      rintro en w7 ⟨rfl, hb7⟩
      have HB7 := Calm.hid (HB6.out.trans (hb7.mono HB6.out.size))
      clear hb7
      go_wp2
      go_ret
      exact ⟨rfl, (HT.out.trans (Turns.of_below HB7.out)).below (fun _ _ h => h)⟩
end Go.Proofs.YtpbahoapjkmcjaaDoor
