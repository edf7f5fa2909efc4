/-
  The mac is what the document says; the walk of MacTells.
-/
import Derived.Test.YtpbahoapjkmcjaaDoorSame
import Derived.Test.YtpbahoapjkmcjaaDoorMacWakes
import Derived.Test.YtpbahoapjkmcjaaDoorTellsW
namespace Go.Proofs.YtpbahoapjkmcjaaDoor
open Go.RowKit Go.Sha Go.Calm
theorem macOf_n (key b : List UInt8) (kn n : Nat) (kp p : Option Addr) (kc c : Nat) (w : World) (hk : BytesOf w kp kn kc key) (hb : BytesOf w p n c b) (hlk : key.length < 35184372088832) (hlb : b.length < 17592186044416) (hK : HasK w) :
    Calls Tryd.prog 21 #[.slice kp kn kc, .slice p n c] w fun en w' => en = .returned (.agg (arr (macD key b))) ∧ Below w.heap.size w w' := macOf_any key b kn n kp p kc c w hk hb hlk hlb hK
theorem macD_length (key b : List UInt8) : (macD key b).length = 32 := digest_length _

set_option maxRecDepth 100000 in
set_option maxHeartbeats 1000000 in
theorem macTells_walk (key : List UInt8) (kp : Option Addr) (kc : Nat) (b : List UInt8) (p : Option Addr) (c : Nat) (d : List UInt8) (w : World) (hk : BytesOf w kp key.length kc key) (hb : BytesOf w p b.length c b) (hdl : d.length = 32) (hK : HasK w) :
    Calls Tryd.prog 12 #[.slice kp key.length kc, .slice p b.length c, .agg (arr d)] w fun en w' => en = .returned (.bool true) ∧ Below w.heap.size w w' := by
  obtain ⟨i0, hi0, hz0, hz1, hz2⟩ := info_parts Tryd.info5
  obtain ⟨D, hD⟩ : ∃ D, D = arr d := ⟨_, rfl⟩
  have hw1 : Below w.heap.size w (w.alloc (.cells D 25)) := (Below.refl _ _).alloc (Nat.le_refl _) _
  have hrd : Rw (w.alloc (.cells D 25)) w.heap.size (d.map bv) 25 := by have := Rw.new w D 25; rw [hD] at this ⊢; simpa [arr] using this
  have HKY := Calm.hid (hk.below hw1)
  have HB := Calm.hid (hb.below hw1)
  have HK := Calm.hid (hK.below hw1)
  have HRD := Calm.hid hrd
  have HD := Calm.hid hD
  have HW1 := Calm.hid hw1
  have hguard := Tryd.noGuard25
  obtain ⟨w1, hw1e⟩ : ∃ w1, w1 = w.alloc (.cells D 25) := ⟨_, rfl⟩
  have HE := Calm.hid hw1e
  rw [← hD]
  rw [← hw1e] at HKY HB HK HRD HW1
  clear hk hb hK hw1 hrd hD hw1e
  by_cases h1 : 8192 < key.length
  · have hd : decide (8192 < (key.length : Int)) = true := by simp; omega
    go_enter Tryd.func12, Tryd.ntmps12
    go_wp2_with fail
    rw [← HE.out]
    refine (wakes2_any w1 HK.out).mono ?_
    rintro en w2 ⟨rfl, hb2⟩
    have HB2 := Calm.hid (HW1.out.trans (hb2.mono HW1.out.size))
    clear hb2
    go_wp2
    go_ret
    exact ⟨rfl, HB2.out⟩
  by_cases h2 : 8192 < b.length
  · have hd : decide (8192 < (key.length : Int)) = false := by simp; omega
    have hd2 : decide (8192 < (b.length : Int)) = true := by simp; omega
    go_enter Tryd.func12, Tryd.ntmps12
    go_wp2_with fail
    rw [← HE.out]
    refine (wakes2_any w1 HK.out).mono ?_
    rintro en w2 ⟨rfl, hb2⟩
    have HB2 := Calm.hid (HW1.out.trans (hb2.mono HW1.out.size))
    clear hb2
    go_wp2
    go_ret
    exact ⟨rfl, HB2.out⟩
  have hd : decide (8192 < (key.length : Int)) = false := by simp; omega
  have hd2 : decide (8192 < (b.length : Int)) = false := by simp; omega
  go_enter Tryd.func12, Tryd.ntmps12
  go_wp2_with (at_builtin; rw [← HE.out]; refine wpList_append_any rfl (.const (.slice none 0 0)) (.tmp 19) 22 rfl w1.heap.size 5 i0 (.int .u8 0) 1 1 Tryd.underlying22 hi0 hz0 hz1 hz2 rfl (by decide) _ _ _ rfl (World.ownsRow_nil _ _ _ _) kp key.length kc (key.map bv) rfl (by simp) HKY.out.nil HKY.out.news (BytesOf.one _) ?_ ?_ ?_ ?_)
  case refine_1 => simp [maxLen]; omega
  case refine_2 => simp; omega
  case refine_3 => exact Nat.le_refl _
  intro v2 w2 hown2 hg2
  have hb2 := below_nil hg2
  obtain ⟨p2, c2, hv2, hby2, _⟩ := BytesOf.own (l := key) (n := key.length) (by simpa using hown2)
  subst hv2
  have HB2 := Calm.hid hb2
  have HY2 := Calm.hid hby2
  have HBB := Calm.hid (HB.out.below HB2.out)
  clear hown2 hg2 hb2 hby2
  go_wp2_with (at_builtin; refine wpList_append_any rfl (.const (.slice none 0 0)) (.tmp 21) 22 rfl w2.heap.size 5 i0 (.int .u8 0) 1 1 Tryd.underlying22 hi0 hz0 hz1 hz2 rfl (by decide) _ _ _ rfl (World.ownsRow_nil _ _ _ _) p b.length c (b.map bv) rfl (by simp) HBB.out.nil HBB.out.news (BytesOf.one _) ?_ ?_ ?_ ?_)
  case refine_1 => simp [maxLen]; omega
  case refine_2 => simp; omega
  case refine_3 => exact Nat.le_refl _
  intro v3 w3 hown3 hg3
  have hb3 := below_nil hg3
  obtain ⟨p3, c3, hv3, hby3, _⟩ := BytesOf.own (l := b) (n := b.length) (by simpa using hown3)
  subst hv3
  have HB3 := Calm.hid (HB2.out.trans (hb3.mono HB2.out.size))
  have HY3 := Calm.hid hby3
  have HX3 := Calm.hid (HY2.out.below hb3)
  clear hown3 hg3 hb3 hby3
  go_wp2_with fail
  refine (macOf_n key b key.length b.length p2 p3 c2 c3 w3 HX3.out HY3.out (by omega) (by omega) (HK.out.below HB3.out)).mono ?_
  rintro en w4 ⟨rfl, hb4⟩
  have HB4 := Calm.hid (HB3.out.trans (hb4.mono HB3.out.size))
  have HY4 := Calm.hid (HY3.out.below hb4)
  have HX4 := Calm.hid (HX3.out.below hb4)
  clear hb4
  obtain ⟨m, hm⟩ : ∃ m, m = macD key b := ⟨_, rfl⟩
  have HML : Hid (m.length = 32) := by show m.length = 32; rw [hm, macD_length]
  rw [← hm]
  have HM := Calm.hid hm
  clear hm
  have HZ4 : Hid (Rw (w4.alloc (.cells #[.int .u8 0, .int .u8 0, .int .u8 0, .int .u8 0, .int .u8 0, .int .u8 0, .int .u8 0, .int .u8 0, .int .u8 0, .int .u8 0, .int .u8 0, .int .u8 0, .int .u8 0, .int .u8 0, .int .u8 0, .int .u8 0, .int .u8 0, .int .u8 0, .int .u8 0, .int .u8 0, .int .u8 0, .int .u8 0, .int .u8 0, .int .u8 0, .int .u8 0, .int .u8 0, .int .u8 0, .int .u8 0, .int .u8 0, .int .u8 0, .int .u8 0, .int .u8 0] 25)) w4.heap.size (zero32.map bv) 25) := Rw.new w4 _ 25
  go_wp2_with (refine wpList_store_rw rfl 25 (.tmp 9) (.tmp 25) rfl w4.heap.size (m.map bv) rfl rfl 25 _ HZ4.out (by rw [List.length_map, HML.out]; kernel_rfl) (by rw [List.length_map, List.length_map, HML.out]; rfl) (BytesOf.one _) ?_; intro w7 hr7 ht7; refine wpList_nil ?_)
  have hb47 := new_stored ht7
  have HB7 := Calm.hid (HB4.out.trans (hb47.mono HB4.out.size))
  have HY7 := Calm.hid (HY4.out.below hb47)
  have HX7 := Calm.hid (HX4.out.below hb47)
  have HR7 := Calm.hid hr7
  clear hr7 ht7 hb47 HZ4
  obtain ⟨M, hM⟩ : ∃ M, M = arr m := ⟨_, rfl⟩
  have hB7 : ∀ q : Kept w7, Below w1.heap.size w1 q.world := fun q => HB7.out.trans (q.below.mono HB7.out.size)
  have ho7 : ∀ q : Kept w7, Calls Tryd.prog 26 #[.slice kp key.length kc, .slice p b.length c] q.world fun en w' => en = .returned (.agg M) ∧ Below q.world.heap.size q.world w' := fun q => by
    rw [hM, HM.out]
    exact refMac_any key b key.length b.length kp p kc c q.world (HKY.out.below (hB7 q)) (HB.out.below (hB7 q)) (by omega) (by omega)
  have hw7 : ∀ q : Kept w7, Calls Tryd.prog 22 #[] q.world fun en w' => en = .returned (.bool true) ∧ Below q.world.heap.size q.world w' := fun q => wakes2_any q.world (HK.out.below (hB7 q))
  have hl7 : ∀ q : Kept w7, (Instr.loadAt 25 (.pointer (some ⟨w4.heap.size, 0, none⟩))).run Tryd.prog q.world = .ok (.agg M) q.world := fun q => by rw [hM]; exact load25 (HR7.out.below q.below) HML.out
  have hd7 : ∀ q : Kept w7, (Instr.loadAt 25 (.pointer (some ⟨w.heap.size, 0, none⟩))).run Tryd.prog q.world = .ok (.agg D) q.world := fun q => by rw [HD.out]; exact load25 (HRD.out.below (hB7 q)) hdl
  have hk1 : ∀ q : Kept w7, (convert 22 9 (.slice p2 key.length c2)).run Tryd.prog q.world = .ok (.string ⟨key.toArray⟩) q.world := fun q => (HX7.out.below q.below).str Tryd.underlying22 Tryd.underlying5 Tryd.underlying9
  have hk0 : ∀ q : Kept w7, (convert 22 9 (.slice kp key.length kc)).run Tryd.prog q.world = .ok (.string ⟨key.toArray⟩) q.world := fun q => (HKY.out.below (hB7 q)).str Tryd.underlying22 Tryd.underlying5 Tryd.underlying9
  have hc1 : ∀ q : Kept w7, (convert 22 9 (.slice p3 b.length c3)).run Tryd.prog q.world = .ok (.string ⟨b.toArray⟩) q.world := fun q => (HY7.out.below q.below).str Tryd.underlying22 Tryd.underlying5 Tryd.underlying9
  have hc0 : ∀ q : Kept w7, (convert 22 9 (.slice p b.length c)).run Tryd.prog q.world = .ok (.string ⟨b.toArray⟩) q.world := fun q => (HB.out.below (hB7 q)).str Tryd.underlying22 Tryd.underlying5 Tryd.underlying9
  have hs7 : ∀ q : Kept w7, Calls Tryd.prog 27 #[.agg M, .agg M] q.world fun en w' => en = .returned (.bool true) ∧ Below q.world.heap.size q.world w' := fun q => by
    rw [hM]; have := same_any m m HML.out HML.out q.world; rwa [decide_eq_true rfl] at this
  have ht7 : ∀ q : Kept w7, Calls Tryd.prog 27 #[.agg M, .agg D] q.world fun en w' => en = .returned (.bool (decide (m = d))) ∧ Below q.world.heap.size q.world w' := fun q => by
    rw [hM, HD.out]; exact same_any m d HML.out hdl q.world
  have he7 := fun w => eq25 m m HML.out HML.out w
  have hf7 := fun w => eq25 m d HML.out hdl w
  rw [← hM] at he7 hf7
  rw [← HD.out] at hf7
  rw [decide_eq_true rfl] at he7
  have HO7 := Calm.hid ho7
  have HT7 := Calm.hid ht7
  have HS7 := Calm.hid hs7
  have HW7 := Calm.hid hw7
  have HL7 := Calm.hid hl7
  have HD7 := Calm.hid hd7
  rw [← hM]
  clear ho7 ht7 hs7 hw7 hl7 hd7 hB7 hM
  obtain ⟨t, ht⟩ : ∃ t, t = decide (m = d) := ⟨_, rfl⟩
  rw [← ht] at HT7 hf7
  clear ht
  cases t
  all_goals
    go_frame
    refine Calm.region_k 36 (by kernel_rfl) (by kernel_rfl) ?_
    simp only [List.take_succ_cons, List.take_zero, List.drop_succ_cons, List.drop_zero]
    refine wpQuiet_load rfl 25 (.tmp 9) rfl w4.heap.size rfl _ (by rintro _ ⟨q, rfl⟩; exact HL7.out q) ?_
    go_frame
    repeat (go_big_quiet_step (first | (go_at_call 26; exact Kept.call (HO7.out _))))
    refine wpQuiet_load rfl 25 (.tmp 9) rfl w4.heap.size rfl _ (by rintro _ ⟨q, rfl⟩; exact HL7.out q) ?_
    go_frame
    refine wpQuiet_load rfl 25 (.tmp 9) rfl w4.heap.size rfl _ (by rintro _ ⟨q, rfl⟩; exact HL7.out q) ?_
    go_frame
    repeat (go_big_quiet_step (first | (go_at_call 27; exact Kept.call (HS7.out _))))
    refine wpQuiet_load rfl 25 (.tmp 9) rfl w4.heap.size rfl _ (by rintro _ ⟨q, rfl⟩; exact HL7.out q) ?_
    go_frame
    refine wpQuiet_load rfl 25 (.tmp 5) rfl w.heap.size rfl _ (by rintro _ ⟨q, rfl⟩; exact HD7.out q) ?_
    go_frame
    repeat (go_big_quiet_step (first | (go_at_call 27; exact Kept.call (HT7.out _))))
    refine wpQuiet_load rfl 25 (.tmp 9) rfl w4.heap.size rfl _ (by rintro _ ⟨q, rfl⟩; exact HL7.out q) ?_
    go_frame
    refine wpQuiet_load rfl 25 (.tmp 5) rfl w.heap.size rfl _ (by rintro _ ⟨q, rfl⟩; exact HD7.out q) ?_
    go_frame
    repeat (go_big_quiet_step (first | (go_at_call 22; exact Kept.call (HW7.out _))))
    refine wpQuiet_nil ?_
    rintro _ ⟨nq, rfl⟩
    have HB8 := Calm.hid (HW1.out.trans ((HB7.out.trans (nq.below.mono HB7.out.size)).mono HW1.out.size))
    clear hc0 hc1 hk0 hk1 he7 hf7
    go_wp2
    go_ret
    exact ⟨rfl, HB8.out⟩
/-- The same walk in the shape in which the card's text takes it. -/
theorem macTells_card (key : List UInt8) (kp : Option Addr) (kc : Nat) (b : List UInt8) (p : Option Addr) (c : Nat) (d : List UInt8) (w : World) (hk : BytesOf w kp key.length kc key) (hb : BytesOf w p b.length c b) (hdl : d.length = 32) (hK : HasK w) :
    Calls Tryd.prog 12 #[.slice kp key.length kc, .slice p b.length c, .agg (arr d)] w fun en w' => en = .returned (.bool true) ∧ Below w.heap.size w w' := macTells_walk key kp kc b p c d w hk hb hdl hK
end Go.Proofs.YtpbahoapjkmcjaaDoor
