/-
  The next serial has the next check digit, the next carrier one that is greater by 4; the walk of NumberNext.
-/
import Derived.Test.YtmpcknjmdealgaaDoorBackW
namespace Go.Proofs.YtmpcknjmdealgaaDoor
open Go.RowKit Go.Sha Go.Calm
/-- The check digit. -/
def chk (c s : Nat) : Nat := (c * 10000000000 + s) % 7
theorem chk_next_serial (c s : Nat) : chk c (s + 1) = (chk c s + 1) % 7 := by unfold chk; omega
theorem chk_next_carrier (c s : Nat) : chk (c + 1) s = (chk c s + 4) % 7 := by unfold chk; omega
theorem textOf_last (c s : Nat) : (textOf c s).getD 13 0 = UInt8.ofNat (48 + chk c s) := by
  have h := thirteen_length c s
  simp only [textOf, chk, List.getD_eq_getElem?_getD]
  rw [List.getElem?_append_right (by omega), h]
  rfl
theorem last_val (k : Nat) (hk : k < 10) : (B8 (UInt8.ofNat (48 + k)) - 48) % 256 = (k : Int) := by
  unfold B8
  rw [UInt8.toNat_ofNat']
  omega
/-- A told text: its length, and what its last sign counts. -/
structure Told (S : ByteArray) (c s : Nat) : Prop where
  size : S.size = 14
  last : ∀ w, (Instr.index 9 (.string S) (.int .i64 13)).run Tryd.prog w = .ok (bv (UInt8.ofNat (48 + chk c s))) w
theorem told_of {c s : Nat} {S : ByteArray} (h : S = ⟨(textOf c s).toArray⟩) : Told S c s := by
  refine ⟨by rw [h]; show (textOf c s).toArray.size = 14; rw [List.size_toArray, textOf_length], fun w => ?_⟩
  have := index_str S (textOf c s) h 13 (by rw [textOf_length]; decide) w
  rw [textOf_last] at this
  exact this

theorem told_cases (c s : Nat) : ∃ (S : ByteArray) (e : Int) (y : UInt8) (k : Nat), textV c s = .tuple #[.string S, .int .i64 e] ∧
    ((e = 0 ∧ mayN c s = true ∧ S.size = 14 ∧ k = chk c s ∧ (B8 y - 48) % 256 = (k : Int) ∧ ∀ w, (Instr.index 9 (.string S) (.int .i64 13)).run Tryd.prog w = .ok (bv y) w) ∨ (e = 1 ∧ mayN c s = false)) := by
  cases hm : mayN c s
  · exact ⟨_, _, 0, 0, textV_no hm, .inr ⟨rfl, rfl⟩⟩
  · have h := told_of (c := c) (s := s) rfl
    refine ⟨_, _, _, chk c s, textV_yes hm, .inl ⟨rfl, rfl, h.size, rfl, last_val _ ?_, h.last⟩⟩
    unfold chk; omega

set_option maxRecDepth 100000 in
set_option maxHeartbeats 2000000 in
theorem next_walk (c s : Nat) (w : World) (hc : c < 256) (hs : s < 18446744073709551616) (ht : HasT w) :
    Calls Tryd.prog 8 #[.agg #[.int .u8 c, .int .u64 s]] w fun e w' => e = .returned (.bool true) ∧ Below w.heap.size w w' := by
  have hw1 : Below w.heap.size w (w.alloc (.cells #[.int .u8 c, .int .u64 s] 24)) := (Below.refl _ _).alloc (Nat.le_refl _) _
  have hrw : Rw (w.alloc (.cells #[.int .u8 c, .int .u64 s] 24)) w.heap.size [.int .u8 c, .int .u64 s] 24 := Rw.new w _ 24
  obtain ⟨w1, hw1e⟩ : ∃ w1, w1 = w.alloc (.cells #[.int .u8 c, .int .u64 s] 24) := ⟨_, rfl⟩
  rw [← hw1e] at hw1 hrw
  obtain ⟨s1, hs1⟩ : ∃ s1, s1 = (s + 1) % 18446744073709551616 := ⟨_, rfl⟩
  obtain ⟨c1, hc1⟩ : ∃ c1, c1 = (c + 1) % 256 := ⟨_, rfl⟩
  have hsi : ((s : Int) + 1) % 18446744073709551616 = (s1 : Int) := by omega
  have hsw : IntKind.u64.wrap ((s : Int) + 1) = (s1 : Int) := by rw [IntKind.wrap_u64]; exact hsi
  have hci : ((c : Int) + 1) % 256 = (c1 : Int) := by omega
  obtain ⟨S0, e0, y0, k0, hV0, h0⟩ := told_cases c s
  obtain ⟨S1, e1, y1, k1, hV1, h1⟩ := told_cases c s1
  obtain ⟨S2, e2, y2, k2, hV2, h2⟩ := told_cases c1 s
  have HSS := Calm.hid hs1
  have HCC := Calm.hid hc1
  have HE := Calm.hid hw1e
  have HW1 := Calm.hid hw1
  have HR := Calm.hid hrw
  have HT := Calm.hid (ht.below hw1)
  have HV0 := Calm.hid hV0
  have HV1 := Calm.hid hV1
  have HV2 := Calm.hid hV2
  have HH0 := Calm.hid h0
  have HH1 := Calm.hid h1
  have HH2 := Calm.hid h2
  have HS1 := Calm.hid (show s1 < 18446744073709551616 by omega)
  have HC1 := Calm.hid (show c1 < 256 by omega)
  clear hw1e hw1 hrw ht hV0 hV1 hV2 hs1 hc1 h0 h1 h2
  go_enter Tryd.func8, Tryd.ntmps8
  go_wp2_with fail
  rw [← HE.out]
  refine (text_any c s hc hs w1 HT.out).mono ?_
  rintro e w2 ⟨rfl, hb2⟩
  rw [HV0.out]
  have HB2 := Calm.hid (HW1.out.trans (hb2.mono HW1.out.size))
  have HT2 := Calm.hid (HT.out.below hb2)
  have HR2 := Calm.hid (HR.out.below hb2)
  clear hb2
  have k0c := HR2.out.cell (i := 0) rfl
  have k1c := HR2.out.cell (i := 1) rfl
  have k3 := (HR2.out.alloc (.cells #[.int .u8 c, .int .u64 s] 24)).cell (i := 1) rfl
  go_wp2_with fail
  have HB3 : Hid (Below w.heap.size w (w2.alloc (.cells #[.int .u8 c, .int .u64 s1] 24))) := HB2.out.alloc HB2.out.size _
  have HT3 : Hid (HasT (w2.alloc (.cells #[.int .u8 c, .int .u64 s1] 24))) := HT2.out.below ((Below.refl w2.heap.size w2).alloc (Nat.le_refl _) _)
  have HR3 : Hid (Rw (w2.alloc (.cells #[.int .u8 c, .int .u64 s1] 24)) w.heap.size [.int .u8 c, .int .u64 s] 24) := HR2.out.alloc _
  clear k0c k1c k3
  refine (text_any c s1 hc HS1.out _ HT3.out).mono ?_
  rintro e w4 ⟨rfl, hb4⟩
  rw [HV1.out]
  have HB4 := Calm.hid (HB3.out.trans (hb4.mono HB3.out.size))
  have HT4 := Calm.hid (HT3.out.below hb4)
  have HR4 := Calm.hid (HR3.out.below hb4)
  clear hb4
  have h0 := HH0.out
  have h1 := HH1.out
  rcases h0 with ⟨rfl, hm0, hz0, hk0, hd0, hx0⟩ | ⟨rfl, hm0⟩
  · rcases h1 with ⟨rfl, hm1, hz1, hk1, hd1, hx1⟩ | ⟨rfl, hm1⟩
    · skip
      have HM0 := Calm.hid hm0
      have HK0 := Calm.hid hk0
      have hk : ((k0 : Int) + 1) % 7 = (k1 : Int) := by
        obtain ⟨_, _, hle⟩ := mayN_spec hm0
        have e := HSS.out
        have e2 : s1 = s + 1 := by omega
        rw [hk0, hk1, e2, chk_next_serial]
        omega
      clear hm0 hk0 hm1 hk1
      go_wp2
      refine Calm.region_d 25 (by kernel_rfl) (by kernel_rfl) ?_
      simp only [List.take_succ_cons, List.take_zero, List.drop_succ_cons, List.drop_zero]
      repeat (go_big_quiet_step (fail))
      refine wpQuiet_nil ?_
      rintro _ ⟨nq, rfl⟩
      refine wpList_nil ?_
      have HBQ : Hid (Below w.heap.size w (w4.drewN nq)) := ⟨HB4.out.os, HB4.out.tape, HB4.out.output, HB4.out.size, HB4.out.block⟩
      have HTQ : Hid (HasT (w4.drewN nq)) := HT4.out
      have HRQ : Hid (Rw (w4.drewN nq) w.heap.size [.int .u8 c, .int .u64 s] 24) := HR4.out
      obtain ⟨w5, hw5⟩ : ∃ w5, w5 = w4.drewN nq := ⟨_, rfl⟩
      rw [← hw5] at HBQ HTQ HRQ ⊢
      clear hw5
      have q0c := HRQ.out.cell (i := 0) rfl
      have q1c := HRQ.out.cell (i := 1) rfl
      have q2c := (HRQ.out.alloc (.cells #[.int .u8 c, .int .u64 s] 24)).cell (i := 0) rfl
      go_wp2_with fail
      have HB6 : Hid (Below w.heap.size w (w5.alloc (.cells #[.int .u8 c1, .int .u64 s] 24))) := HBQ.out.alloc HBQ.out.size _
      have HT6 : Hid (HasT (w5.alloc (.cells #[.int .u8 c1, .int .u64 s] 24))) := HTQ.out.below ((Below.refl w5.heap.size w5).alloc (Nat.le_refl _) _)
      clear q0c q1c q2c
      refine (text_any c1 s HC1.out hs _ HT6.out).mono ?_
      rintro e w7 ⟨rfl, hb7⟩
      rw [HV2.out]
      have HB7 := Calm.hid (HB6.out.trans (hb7.mono HB6.out.size))
      have HT7 := Calm.hid (HT6.out.below hb7)
      clear hb7
      have h2 := HH2.out
      rcases h2 with ⟨rfl, hm2, hz2, hk2, hd2, hx2⟩ | ⟨rfl, hm2⟩
      · skip
        have hkk : ((k0 : Int) + 4) % 7 = (k2 : Int) := by
          obtain ⟨hlt, _, _⟩ := mayN_spec HM0.out
          have e := HCC.out
          have e2 : c1 = c + 1 := by omega
          rw [HK0.out, hk2, e2, chk_next_carrier]
          omega
        clear hm2 hk2
        go_wp2
        refine Calm.region_d 34 (by kernel_rfl) (by kernel_rfl) ?_
        simp only [List.take_succ_cons, List.take_zero, List.drop_succ_cons, List.drop_zero]
        repeat (go_big_quiet_step (fail))
        refine wpQuiet_nil ?_
        rintro _ ⟨nr, rfl⟩
        refine wpList_nil ?_
        have HB8 : Hid (Below w.heap.size w (w7.drewN nr)) := ⟨HB7.out.os, HB7.out.tape, HB7.out.output, HB7.out.size, HB7.out.block⟩
        have HT8 : Hid (HasT (w7.drewN nr)) := HT7.out
        go_wp2_with fail
        refine (tells_any _ HT8.out).mono ?_
        rintro e w9 ⟨rfl, hb9⟩
        have HB9 := Calm.hid (HB8.out.trans (hb9.mono HB8.out.size))
        clear hb9
        go_wp2
        go_ret
        exact ⟨rfl, HB9.out⟩
      · skip
        clear hm2
        go_wp2
        refine Calm.region_d 34 (by kernel_rfl) (by kernel_rfl) ?_
        simp only [List.take_succ_cons, List.take_zero, List.drop_succ_cons, List.drop_zero]
        repeat (go_big_quiet_step (fail))
        refine wpQuiet_nil ?_
        rintro _ ⟨nr, rfl⟩
        refine wpList_nil ?_
        have HB8 : Hid (Below w.heap.size w (w7.drewN nr)) := ⟨HB7.out.os, HB7.out.tape, HB7.out.output, HB7.out.size, HB7.out.block⟩
        have HT8 : Hid (HasT (w7.drewN nr)) := HT7.out
        go_wp2_with fail
        refine (tells_any _ HT8.out).mono ?_
        rintro e w9 ⟨rfl, hb9⟩
        have HB9 := Calm.hid (HB8.out.trans (hb9.mono HB8.out.size))
        clear hb9
        go_wp2
        go_ret
        exact ⟨rfl, HB9.out⟩
    · skip
      have HM0 := Calm.hid hm0
      have HK0 := Calm.hid hk0
      clear hm0 hk0 hm1
      go_wp2
      refine Calm.region_d 25 (by kernel_rfl) (by kernel_rfl) ?_
      simp only [List.take_succ_cons, List.take_zero, List.drop_succ_cons, List.drop_zero]
      repeat (go_big_quiet_step (fail))
      refine wpQuiet_nil ?_
      rintro _ ⟨nq, rfl⟩
      refine wpList_nil ?_
      have HBQ : Hid (Below w.heap.size w (w4.drewN nq)) := ⟨HB4.out.os, HB4.out.tape, HB4.out.output, HB4.out.size, HB4.out.block⟩
      have HTQ : Hid (HasT (w4.drewN nq)) := HT4.out
      have HRQ : Hid (Rw (w4.drewN nq) w.heap.size [.int .u8 c, .int .u64 s] 24) := HR4.out
      obtain ⟨w5, hw5⟩ : ∃ w5, w5 = w4.drewN nq := ⟨_, rfl⟩
      rw [← hw5] at HBQ HTQ HRQ ⊢
      clear hw5
      have q0c := HRQ.out.cell (i := 0) rfl
      have q1c := HRQ.out.cell (i := 1) rfl
      have q2c := (HRQ.out.alloc (.cells #[.int .u8 c, .int .u64 s] 24)).cell (i := 0) rfl
      go_wp2_with fail
      have HB6 : Hid (Below w.heap.size w (w5.alloc (.cells #[.int .u8 c1, .int .u64 s] 24))) := HBQ.out.alloc HBQ.out.size _
      have HT6 : Hid (HasT (w5.alloc (.cells #[.int .u8 c1, .int .u64 s] 24))) := HTQ.out.below ((Below.refl w5.heap.size w5).alloc (Nat.le_refl _) _)
      clear q0c q1c q2c
      refine (text_any c1 s HC1.out hs _ HT6.out).mono ?_
      rintro e w7 ⟨rfl, hb7⟩
      rw [HV2.out]
      have HB7 := Calm.hid (HB6.out.trans (hb7.mono HB6.out.size))
      have HT7 := Calm.hid (HT6.out.below hb7)
      clear hb7
      have h2 := HH2.out
      rcases h2 with ⟨rfl, hm2, hz2, hk2, hd2, hx2⟩ | ⟨rfl, hm2⟩
      · skip
        have hkk : ((k0 : Int) + 4) % 7 = (k2 : Int) := by
          obtain ⟨hlt, _, _⟩ := mayN_spec HM0.out
          have e := HCC.out
          have e2 : c1 = c + 1 := by omega
          rw [HK0.out, hk2, e2, chk_next_carrier]
          omega
        clear hm2 hk2
        go_wp2
        refine Calm.region_d 34 (by kernel_rfl) (by kernel_rfl) ?_
        simp only [List.take_succ_cons, List.take_zero, List.drop_succ_cons, List.drop_zero]
        repeat (go_big_quiet_step (fail))
        refine wpQuiet_nil ?_
        rintro _ ⟨nr, rfl⟩
        refine wpList_nil ?_
        have HB8 : Hid (Below w.heap.size w (w7.drewN nr)) := ⟨HB7.out.os, HB7.out.tape, HB7.out.output, HB7.out.size, HB7.out.block⟩
        have HT8 : Hid (HasT (w7.drewN nr)) := HT7.out
        go_wp2_with fail
        refine (tells_any _ HT8.out).mono ?_
        rintro e w9 ⟨rfl, hb9⟩
        have HB9 := Calm.hid (HB8.out.trans (hb9.mono HB8.out.size))
        clear hb9
        go_wp2
        go_ret
        exact ⟨rfl, HB9.out⟩
      · skip
        clear hm2
        go_wp2
        refine Calm.region_d 34 (by kernel_rfl) (by kernel_rfl) ?_
        simp only [List.take_succ_cons, List.take_zero, List.drop_succ_cons, List.drop_zero]
        repeat (go_big_quiet_step (fail))
        refine wpQuiet_nil ?_
        rintro _ ⟨nr, rfl⟩
        refine wpList_nil ?_
        have HB8 : Hid (Below w.heap.size w (w7.drewN nr)) := ⟨HB7.out.os, HB7.out.tape, HB7.out.output, HB7.out.size, HB7.out.block⟩
        have HT8 : Hid (HasT (w7.drewN nr)) := HT7.out
        go_wp2_with fail
        refine (tells_any _ HT8.out).mono ?_
        rintro e w9 ⟨rfl, hb9⟩
        have HB9 := Calm.hid (HB8.out.trans (hb9.mono HB8.out.size))
        clear hb9
        go_wp2
        go_ret
        exact ⟨rfl, HB9.out⟩
  · rcases h1 with ⟨rfl, hm1, hz1, hk1, hd1, hx1⟩ | ⟨rfl, hm1⟩
    · skip
      clear hm0 hm1 hk1
      go_wp2
      refine Calm.region_d 25 (by kernel_rfl) (by kernel_rfl) ?_
      simp only [List.take_succ_cons, List.take_zero, List.drop_succ_cons, List.drop_zero]
      repeat (go_big_quiet_step (fail))
      refine wpQuiet_nil ?_
      rintro _ ⟨nq, rfl⟩
      refine wpList_nil ?_
      have HBQ : Hid (Below w.heap.size w (w4.drewN nq)) := ⟨HB4.out.os, HB4.out.tape, HB4.out.output, HB4.out.size, HB4.out.block⟩
      have HTQ : Hid (HasT (w4.drewN nq)) := HT4.out
      have HRQ : Hid (Rw (w4.drewN nq) w.heap.size [.int .u8 c, .int .u64 s] 24) := HR4.out
      obtain ⟨w5, hw5⟩ : ∃ w5, w5 = w4.drewN nq := ⟨_, rfl⟩
      rw [← hw5] at HBQ HTQ HRQ ⊢
      clear hw5
      have q0c := HRQ.out.cell (i := 0) rfl
      have q1c := HRQ.out.cell (i := 1) rfl
      have q2c := (HRQ.out.alloc (.cells #[.int .u8 c, .int .u64 s] 24)).cell (i := 0) rfl
      go_wp2_with fail
      have HB6 : Hid (Below w.heap.size w (w5.alloc (.cells #[.int .u8 c1, .int .u64 s] 24))) := HBQ.out.alloc HBQ.out.size _
      have HT6 : Hid (HasT (w5.alloc (.cells #[.int .u8 c1, .int .u64 s] 24))) := HTQ.out.below ((Below.refl w5.heap.size w5).alloc (Nat.le_refl _) _)
      clear q0c q1c q2c
      refine (text_any c1 s HC1.out hs _ HT6.out).mono ?_
      rintro e w7 ⟨rfl, hb7⟩
      rw [HV2.out]
      have HB7 := Calm.hid (HB6.out.trans (hb7.mono HB6.out.size))
      have HT7 := Calm.hid (HT6.out.below hb7)
      clear hb7
      have h2 := HH2.out
      rcases h2 with ⟨rfl, hm2, hz2, hk2, hd2, hx2⟩ | ⟨rfl, hm2⟩
      · skip
        clear hm2 hk2
        go_wp2
        refine Calm.region_d 34 (by kernel_rfl) (by kernel_rfl) ?_
        simp only [List.take_succ_cons, List.take_zero, List.drop_succ_cons, List.drop_zero]
        repeat (go_big_quiet_step (fail))
        refine wpQuiet_nil ?_
        rintro _ ⟨nr, rfl⟩
        refine wpList_nil ?_
        have HB8 : Hid (Below w.heap.size w (w7.drewN nr)) := ⟨HB7.out.os, HB7.out.tape, HB7.out.output, HB7.out.size, HB7.out.block⟩
        have HT8 : Hid (HasT (w7.drewN nr)) := HT7.out
        go_wp2_with fail
        refine (tells_any _ HT8.out).mono ?_
        rintro e w9 ⟨rfl, hb9⟩
        have HB9 := Calm.hid (HB8.out.trans (hb9.mono HB8.out.size))
        clear hb9
        go_wp2
        go_ret
        exact ⟨rfl, HB9.out⟩
      · skip
        clear hm2
        go_wp2
        refine Calm.region_d 34 (by kernel_rfl) (by kernel_rfl) ?_
        simp only [List.take_succ_cons, List.take_zero, List.drop_succ_cons, List.drop_zero]
        repeat (go_big_quiet_step (fail))
        refine wpQuiet_nil ?_
        rintro _ ⟨nr, rfl⟩
        refine wpList_nil ?_
        have HB8 : Hid (Below w.heap.size w (w7.drewN nr)) := ⟨HB7.out.os, HB7.out.tape, HB7.out.output, HB7.out.size, HB7.out.block⟩
        have HT8 : Hid (HasT (w7.drewN nr)) := HT7.out
        go_wp2_with fail
        refine (tells_any _ HT8.out).mono ?_
        rintro e w9 ⟨rfl, hb9⟩
        have HB9 := Calm.hid (HB8.out.trans (hb9.mono HB8.out.size))
        clear hb9
        go_wp2
        go_ret
        exact ⟨rfl, HB9.out⟩
    · skip
      clear hm0 hm1
      go_wp2
      refine Calm.region_d 25 (by kernel_rfl) (by kernel_rfl) ?_
      simp only [List.take_succ_cons, List.take_zero, List.drop_succ_cons, List.drop_zero]
      repeat (go_big_quiet_step (fail))
      refine wpQuiet_nil ?_
      rintro _ ⟨nq, rfl⟩
      refine wpList_nil ?_
      have HBQ : Hid (Below w.heap.size w (w4.drewN nq)) := ⟨HB4.out.os, HB4.out.tape, HB4.out.output, HB4.out.size, HB4.out.block⟩
      have HTQ : Hid (HasT (w4.drewN nq)) := HT4.out
      have HRQ : Hid (Rw (w4.drewN nq) w.heap.size [.int .u8 c, .int .u64 s] 24) := HR4.out
      obtain ⟨w5, hw5⟩ : ∃ w5, w5 = w4.drewN nq := ⟨_, rfl⟩
      rw [← hw5] at HBQ HTQ HRQ ⊢
      clear hw5
      have q0c := HRQ.out.cell (i := 0) rfl
      have q1c := HRQ.out.cell (i := 1) rfl
      have q2c := (HRQ.out.alloc (.cells #[.int .u8 c, .int .u64 s] 24)).cell (i := 0) rfl
      go_wp2_with fail
      have HB6 : Hid (Below w.heap.size w (w5.alloc (.cells #[.int .u8 c1, .int .u64 s] 24))) := HBQ.out.alloc HBQ.out.size _
      have HT6 : Hid (HasT (w5.alloc (.cells #[.int .u8 c1, .int .u64 s] 24))) := HTQ.out.below ((Below.refl w5.heap.size w5).alloc (Nat.le_refl _) _)
      clear q0c q1c q2c
      refine (text_any c1 s HC1.out hs _ HT6.out).mono ?_
      rintro e w7 ⟨rfl, hb7⟩
      rw [HV2.out]
      have HB7 := Calm.hid (HB6.out.trans (hb7.mono HB6.out.size))
      have HT7 := Calm.hid (HT6.out.below hb7)
      clear hb7
      have h2 := HH2.out
      rcases h2 with ⟨rfl, hm2, hz2, hk2, hd2, hx2⟩ | ⟨rfl, hm2⟩
      · skip
        clear hm2 hk2
        go_wp2
        refine Calm.region_d 34 (by kernel_rfl) (by kernel_rfl) ?_
        simp only [List.take_succ_cons, List.take_zero, List.drop_succ_cons, List.drop_zero]
        repeat (go_big_quiet_step (fail))
        refine wpQuiet_nil ?_
        rintro _ ⟨nr, rfl⟩
        refine wpList_nil ?_
        have HB8 : Hid (Below w.heap.size w (w7.drewN nr)) := ⟨HB7.out.os, HB7.out.tape, HB7.out.output, HB7.out.size, HB7.out.block⟩
        have HT8 : Hid (HasT (w7.drewN nr)) := HT7.out
        go_wp2_with fail
        refine (tells_any _ HT8.out).mono ?_
        rintro e w9 ⟨rfl, hb9⟩
        have HB9 := Calm.hid (HB8.out.trans (hb9.mono HB8.out.size))
        clear hb9
        go_wp2
        go_ret
        exact ⟨rfl, HB9.out⟩
      · skip
        clear hm2
        go_wp2
        refine Calm.region_d 34 (by kernel_rfl) (by kernel_rfl) ?_
        simp only [List.take_succ_cons, List.take_zero, List.drop_succ_cons, List.drop_zero]
        repeat (go_big_quiet_step (fail))
        refine wpQuiet_nil ?_
        rintro _ ⟨nr, rfl⟩
        refine wpList_nil ?_
        have HB8 : Hid (Below w.heap.size w (w7.drewN nr)) := ⟨HB7.out.os, HB7.out.tape, HB7.out.output, HB7.out.size, HB7.out.block⟩
        have HT8 : Hid (HasT (w7.drewN nr)) := HT7.out
        go_wp2_with fail
        refine (tells_any _ HT8.out).mono ?_
        rintro e w9 ⟨rfl, hb9⟩
        have HB9 := Calm.hid (HB8.out.trans (hb9.mono HB8.out.size))
        clear hb9
        go_wp2
        go_ret
        exact ⟨rfl, HB9.out⟩
end Go.Proofs.YtmpcknjmdealgaaDoor
