/-
  The digests that are known: of no bytes, of 56 signs, of a million signs a: the walk of ShaKnown.
-/
import Derived.Test.YtpbahoapjkmcjaaDoorPenNew
import Derived.Test.YtpbahoapjkmcjaaDoorMillA
namespace Go.Proofs.YtpbahoapjkmcjaaDoor
open Go.RowKit Go.Sha Go.Calm
def signs56 : List UInt8 := [97, 98, 99, 100, 98, 99, 100, 101, 99, 100, 101, 102, 100, 101, 102, 103, 101, 102, 103, 104, 102, 103, 104, 105, 103, 104, 105, 106, 104, 105, 106, 107, 105, 106, 107, 108, 106, 107, 108, 109, 107, 108, 109, 110, 108, 109, 110, 111, 109, 110, 111, 112, 110, 111, 112, 113]
theorem none_text : hexOf (digest []) = [101, 51, 98, 48, 99, 52, 52, 50, 57, 56, 102, 99, 49, 99, 49, 52, 57, 97, 102, 98, 102, 52, 99, 56, 57, 57, 54, 102, 98, 57, 50, 52, 50, 55, 97, 101, 52, 49, 101, 52, 54, 52, 57, 98, 57, 51, 52, 99, 97, 52, 57, 53, 57, 57, 49, 98, 55, 56, 53, 50, 98, 56, 53, 53] := by decide +kernel
theorem signs_text : hexOf (digest signs56) = [50, 52, 56, 100, 54, 97, 54, 49, 100, 50, 48, 54, 51, 56, 98, 56, 101, 53, 99, 48, 50, 54, 57, 51, 48, 99, 51, 101, 54, 48, 51, 57, 97, 51, 51, 99, 101, 52, 53, 57, 54, 52, 102, 102, 50, 49, 54, 55, 102, 54, 101, 99, 101, 100, 100, 52, 49, 57, 100, 98, 48, 54, 99, 49] := by decide +kernel
theorem mill_text : hexOf (digest (List.replicate 1000000 97)) = [99, 100, 99, 55, 54, 101, 53, 99, 57, 57, 49, 52, 102, 98, 57, 50, 56, 49, 97, 49, 99, 55, 101, 50, 56, 52, 100, 55, 51, 101, 54, 55, 102, 49, 56, 48, 57, 97, 52, 56, 97, 52, 57, 55, 50, 48, 48, 101, 48, 52, 54, 100, 51, 57, 99, 99, 99, 55, 49, 49, 50, 99, 100, 48] := by rw [digestA]; decide +kernel

/-- The piece: the first i bytes are written. -/
structure F1 (w : World) (i : Nat) (wr : World) : Prop where
  row : Rw wr w.heap.size ((List.replicate i (97 : UInt8) ++ List.replicate (1000 - i) 0).map bv) 5
  turns : Turns (fun _ => False) w wr
theorem F1.at_ {w wr : World} {i : Nat} (h : F1 w i wr) (hi : i < 1000) : wr.cell? ⟨w.heap.size, i, none⟩ = some (.int .u8 0) := by
  refine h.row.cell ?_
  rw [List.getElem?_map, List.getElem?_append_right (by simp), List.length_replicate, List.getElem?_replicate_of_lt (by omega)]
  rfl
theorem F1.step {w wr : World} {i : Nat} (h : F1 w i wr) (hi : i < 1000) : F1 w (i + 1) (wr.setCell ⟨w.heap.size, i, none⟩ (.int .u8 97)) := by
  refine ⟨?_, h.turns.setCell (by simp) _⟩
  have := h.row.set i (bv 97)
  rw [← List.map_set, List.set_append_right _ _ (by simp), List.length_replicate, Nat.sub_self, show 1000 - i = (1000 - (i + 1)) + 1 by omega, List.replicate_succ, List.set_cons_zero] at this
  rw [List.replicate_succ', List.append_assoc]
  exact this
/-- The hash: i pieces are written. -/
structure F2 (w : World) (g i : Nat) (left : Value) (wr : World) : Prop where
  hash : IsHash wr w.heap.size left (List.replicate (1000 * i) 97)
  row : Rw wr g ((List.replicate 1000 (97 : UInt8)).map bv) 5
  turns : Turns (fun _ => False) w wr
  own : ∀ k, left.ownBlock = some k → g < k
  lt : w.heap.size < g
theorem F2.step {w wr w2 : World} {g i : Nat} {left left2 : Value} (h : F2 w g i left wr) (hh : IsHash w2 w.heap.size left2 (List.replicate (1000 * i) 97 ++ List.replicate 1000 97)) (ht : Turns (fun k => k = w.heap.size ∨ left.ownBlock = some k) wr w2)
    (hl : ∀ k, left2.ownBlock = some k → wr.heap.size ≤ k) : F2 w g (i + 1) left2 w2 := by
  refine ⟨?_, h.row.turns ht (fun e => ?_), h.turns.step ht (fun k hk e => ?_), fun k hk => ?_, h.lt⟩
  · rw [List.replicate_append_replicate] at hh
    exact hh
  · rcases e with e | e
    · have := h.lt; omega
    · have := h.own _ e; omega
  · rcases e with e | e
    · omega
    · have := h.own _ e; have := h.lt; omega
  · have := hl k hk; have := h.row.lt; omega
theorem F2.below {w wr w2 : World} {g i : Nat} {left : Value} (h : F2 w g i left wr) (hb : Below wr.heap.size wr w2) : F2 w g i left w2 :=
  ⟨h.hash.below hb, h.row.below hb, h.turns.trans (Turns.of_below hb), h.own, h.lt⟩

set_option maxRecDepth 100000 in
set_option maxHeartbeats 1000000 in
theorem shaKnown_walk (w : World) (hK : HasK w) : Calls Tryd.prog 5 #[] w fun en w' => en = .returned (.bool true) ∧ Below w.heap.size w w' := by
  obtain ⟨i0, hi0, hz0, hz1, hz2⟩ := info_parts Tryd.info5
  have HK := Calm.hid hK
  have HT0 := Calm.hid none_text
  have HT1 := Calm.hid signs_text
  obtain ⟨mm, hmm⟩ : ∃ mm, mm = List.replicate 1000000 (97 : UInt8) := ⟨_, rfl⟩
  have hml : mm.length < 35184372088832 := by rw [hmm, List.length_replicate]; decide
  have hmt := mill_text
  rw [← hmm] at hmt
  have HT2 := Calm.hid hmt
  have HML := Calm.hid hml
  have HMM := Calm.hid hmm
  clear hml hmt hmm
  clear hK
  have kc := fun (w : World) (C : Array Value) (n c : Nat) => Lib.run_convert_bytes_const (P := Tryd.prog) w 22 5 C n c Tryd.underlying22 Tryd.underlying5
  go_enter Tryd.func5, Tryd.ntmps5
  go_wp2_with fail
  refine (new_any w).mono ?_
  rintro en w1 ⟨rfl, hh1, hb1⟩
  have HH1 := Calm.hid hh1
  have HB1 := Calm.hid hb1
  clear hh1 hb1
  obtain ⟨Z, hZ⟩ : ∃ Z, Z = madeCells #[.int .u8 0] 1000 := ⟨_, rfl⟩
  have hf1 : F1 w1 0 (w1.alloc (.cells Z 5)) := by
    refine ⟨?_, (Turns.refl _ _).alloc _⟩
    have := Rw.new w1 Z 5
    rw [hZ, made_one] at this
    show Rw _ _ ((List.replicate 1000 (0 : UInt8)).map bv) 5
    rw [List.map_replicate, hZ]; exact this
  have HZ := Calm.hid hZ
  have HF1 := Calm.hid hf1
  clear hZ hf1
  go_wp2_with (refine wpList_make_row _ rfl (.const (.int .i64 1000)) (.const (.int .i64 1000)) 22 rfl 5 i0 (.int .u8 0) Tryd.underlying22 hi0 hz0 hz1 rfl .i64 .i64 1000 rfl rfl (by rw [hz2]; decide) (by decide) ?_; rw [← HZ.out])
  go_loopw [3] (fun t wr => ∃ i : Nat, i ≤ 1000 ∧ t = .int .i64 i ∧ F1 w1 i wr) (fun t _ => 1000 - (intOf t).toNat)
  case atStart => exact ⟨0, by omega, rfl, HF1.out⟩
  case round =>
    obtain ⟨i, hi, rfl, hL⟩ := hrel
    by_cases hlt : i < 1000
    · have c0 := hL.at_ hlt
      have f0 := hL.row.free i
      have HL := Calm.hid hL
      clear hL HF1
      go_wp2
      go_roundw
      case rel => exact ⟨i + 1, by omega, by go_num, HL.out.step hlt⟩
      case measure => simp [intOf]; omega
    · have H64 : Hid (i = 1000) := show i = 1000 by omega
      have hL64 : F1 w1 1000 wr := by rw [← H64.out]; exact hL
      have hp2 : F2 w w1.heap.size 0 (.slice none 0 0) wr := ⟨HH1.out.below (hL64.turns.below (fun _ _ h => h)), by simpa using hL64.row, (Turns.of_below HB1.out).trans hL64.turns |>.mono (fun _ _ h => h), fun k hk => by simp [Value.ownBlock] at hk, HH1.out.row.lt⟩
      have HP := Calm.hid hp2
      clear hL hL64 HF1 hp2
      go_wp2
      go_loopw [4] (fun t wr => ∃ (i : Nat) (left : Value), i ≤ 1000 ∧ t = .int .i64 i ∧ F2 w w1.heap.size i left wr) (fun t _ => 1000 - (intOf t).toNat)
      case atStart => exact ⟨0, _, by omega, rfl, HP.out⟩
      case round =>
        obtain ⟨i, left, hi, rfl, hL⟩ := hrel
        by_cases hlt : i < 1000
        · have HL := Calm.hid hL
          clear hL HP
          go_wp2_with fail
          refine (write_n w.heap.size left (List.replicate (1000 * i) 97) (List.replicate 1000 97) 1000 (some ⟨w1.heap.size, 0, none⟩) 1000 _ HL.out.hash (rw_bytes HL.out.row (List.length_replicate ..) (Nat.le_refl _) (by decide)) (by rw [List.length_replicate, List.length_replicate]; omega) (fun ad had _ => by simp at had; subst had; have := HL.out.lt; simp; omega) (HK.out.turns HL.out.turns (fun h => h)) HK.out.pos).mono ?_
          rintro en w3 ⟨rfl, left3, hh3, ht3, hl3⟩
          have HL3 := Calm.hid (HL.out.step hh3 ht3 hl3)
          clear hh3 ht3 hl3
          go_wp2
          go_roundw
          case rel => exact ⟨i + 1, left3, by omega, by go_num, HL3.out⟩
          case measure => simp [intOf]; omega
        · have HI : Hid (i = 1000) := show i = 1000 by omega
          rw [HI.out] at hL
          have HL := Calm.hid hL
          have HKw := Calm.hid (HK.out.turns HL.out.turns (fun h => h))
          clear hL HP
          go_wp2_with fail
          refine (of_n [] 0 none 0 wr ⟨rfl, Nat.le_refl _, Nat.zero_le _, fun _ => ⟨rfl, rfl⟩, fun ad had => by simp at had⟩ (by decide) HKw.out).mono ?_
          rintro en w2 ⟨rfl, hb2⟩
          have HB2 := Calm.hid hb2
          clear hb2
          go_wp2_with fail
          refine (text_any (digest []) (digest_length _) _).mono ?_
          rintro en w3 ⟨rfl, hb3⟩
          have HB3 := Calm.hid (HB2.out.trans (hb3.mono HB2.out.size))
          clear hb3 HB2
          rw [HT0.out]
          go_wp2_with fail
          have HBA : Hid (Below wr.heap.size wr (w3.alloc (.cells (signs56.map bv).toArray 5 (56, 57)))) := HB3.out.alloc HB3.out.size _
          refine (of_any signs56 _ _ _ (lit_bytes w3 signs56 _ (by decide)) (by decide) (HKw.out.below HBA.out)).mono ?_
          rintro en w4 ⟨rfl, hb4⟩
          have HB4 := Calm.hid (HBA.out.trans (hb4.mono HBA.out.size))
          clear hb4
          go_wp2_with fail
          refine (text_any (digest signs56) (digest_length _) _).mono ?_
          rintro en w5 ⟨rfl, hb5⟩
          have HB5 := Calm.hid (HB4.out.trans (hb5.mono HB4.out.size))
          clear hb5 HB4
          rw [HT1.out]
          go_wp2_with fail
          have HL5 := Calm.hid (HL.out.below HB5.out)
          refine (sum_any w.heap.size left mm w5 (HMM.out ▸ HL5.out.hash) HML.out (HKw.out.below HB5.out)).mono ?_
          rintro en w6 ⟨rfl, hb6⟩
          have HB6 := Calm.hid (HB5.out.trans (hb6.mono HB5.out.size))
          clear hb6
          go_wp2_with fail
          refine (text_any (digest mm) (digest_length _) _).mono ?_
          rintro en w7 ⟨rfl, hb7⟩
          have HB7 := Calm.hid (HB6.out.trans (hb7.mono HB6.out.size))
          clear hb7 HB6
          rw [HT2.out]
          go_wp2_with fail
          refine (wakes_any w7 (HKw.out.below HB7.out)).mono ?_
          rintro en w8 ⟨rfl, hb8⟩
          have HB8 := Calm.hid (HB7.out.trans (hb8.mono HB7.out.size))
          clear hb8 HB7
          go_wp2
          go_ret
          exact ⟨rfl, (HL.out.below HB8.out).turns.below (fun _ _ h => h)⟩
end Go.Proofs.YtpbahoapjkmcjaaDoor
