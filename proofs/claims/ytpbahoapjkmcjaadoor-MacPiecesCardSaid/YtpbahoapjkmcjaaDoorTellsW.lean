/-
  The digest of any bytes, and its text, is what the document says; unlike digests have unlike texts: the walks of ShaTells and ShaTexts.
-/
import Derived.Test.YtpbahoapjkmcjaaDoorRefText
namespace Go.Proofs.YtpbahoapjkmcjaaDoor
open Go.RowKit Go.Sha Go.Calm

theorem hexd_inj : ∀ a b : Nat, a < 16 → b < 16 → hexd a = hexd b → a = b := by
  have : ∀ a, a < 16 → ∀ b, b < 16 → hexd a = hexd b → a = b := by decide
  exact fun a b ha hb h => this a ha b hb h
theorem hexOf_inj : ∀ a b : List UInt8, hexOf a = hexOf b → a = b
  | [], [], _ => rfl
  | [], y :: b, h => by simp [hexOf] at h
  | x :: a, [], h => by simp [hexOf] at h
  | x :: a, y :: b, h => by
    simp only [hexOf, List.flatMap_cons, List.cons_append, List.nil_append, List.cons.injEq] at h
    have hx := x.toNat_lt
    have hy := y.toNat_lt
    have h1 := hexd_inj _ _ (by omega) (by omega) h.1
    have h2 := hexd_inj _ _ (by omega) (by omega) h.2.1
    have h3 : x = y := UInt8.toNat_inj.1 (by omega)
    rw [h3, hexOf_inj a b h.2.2]
theorem noString9 : Tryd.prog.underlying 9 = some .string := Tryd.underlying9

set_option maxRecDepth 100000 in
set_option maxHeartbeats 1000000 in
theorem shaTells_walk (b : List UInt8) (p : Option Addr) (c : Nat) (w : World) (hb : BytesOf w p b.length c b) (hK : HasK w) :
    Calls Tryd.prog 3 #[.slice p b.length c] w fun en w' => en = .returned (.bool true) ∧ Below w.heap.size w w' := by
  obtain ⟨i0, hi0, hz0, hz1, hz2⟩ := info_parts Tryd.info5
  have HB := Calm.hid hb
  have HK := Calm.hid hK
  have hguard := Tryd.noGuard25
  clear hb hK
  by_cases h1 : 16384 < b.length
  · have hd : decide (16384 < (b.length : Int)) = true := by simp; omega
    go_enter Tryd.func3, Tryd.ntmps3
    go_wp2_with fail
    refine (wakes_any w HK.out).mono ?_
    rintro en w2 ⟨rfl, hb2⟩
    have HB2 := Calm.hid hb2
    clear hb2
    go_wp2
    go_ret
    exact ⟨rfl, HB2.out⟩
  have hd : decide (16384 < (b.length : Int)) = false := by simp; omega
  go_enter Tryd.func3, Tryd.ntmps3
  go_wp2_with (at_builtin; refine wpList_append_any rfl (.const (.slice none 0 0)) (.tmp 9) 22 rfl w.heap.size 5 i0 (.int .u8 0) 1 1 Tryd.underlying22 hi0 hz0 hz1 hz2 rfl (by decide) _ _ _ rfl (World.ownsRow_nil _ _ _ _) p b.length c (b.map bv) rfl (by simp) HB.out.nil HB.out.news (BytesOf.one _) ?_ ?_ ?_ ?_)
  case refine_1 => simp [maxLen]; omega
  case refine_2 => simp; omega
  case refine_3 => exact Nat.le_refl _
  intro v1 w1 hown1 hg1
  have hbel := below_nil hg1
  obtain ⟨p1, c1, hv1, hby1, _⟩ := BytesOf.own (l := b) (n := b.length) (by simpa using hown1)
  subst hv1
  have HB1 := Calm.hid hbel
  have HY1 := Calm.hid hby1
  clear hown1 hg1 hbel hby1 hd
  go_wp2_with fail
  refine (of_any b p1 c1 w1 HY1.out (by omega) (HK.out.below HB1.out)).mono ?_
  rintro en w6 ⟨rfl, hb6⟩
  have HB6 := Calm.hid (HB1.out.trans (hb6.mono HB1.out.size))
  have HY6 := Calm.hid (HY1.out.below hb6)
  clear hb6
  have hz6 := Rw.new w6 #[.int .u8 0, .int .u8 0, .int .u8 0, .int .u8 0, .int .u8 0, .int .u8 0, .int .u8 0, .int .u8 0, .int .u8 0, .int .u8 0, .int .u8 0, .int .u8 0, .int .u8 0, .int .u8 0, .int .u8 0, .int .u8 0, .int .u8 0, .int .u8 0, .int .u8 0, .int .u8 0, .int .u8 0, .int .u8 0, .int .u8 0, .int .u8 0, .int .u8 0, .int .u8 0, .int .u8 0, .int .u8 0, .int .u8 0, .int .u8 0, .int .u8 0, .int .u8 0] 25
  have HZ6 := Calm.hid hz6
  clear hz6
  go_wp2_with (refine wpList_store_rw rfl 25 (.tmp 4) (.tmp 12) rfl w6.heap.size _ rfl rfl 25 _ HZ6.out (by rw [List.length_map, digest_length]; kernel_rfl) (by rw [List.length_map, digest_length]; rfl) (BytesOf.one _) ?_; intro w7 hr7 ht7; refine wpList_nil ?_)
  have hb7 := new_stored ht7
  have HB7 := Calm.hid (HB6.out.trans (hb7.mono HB6.out.size))
  have HY7 := Calm.hid (HY6.out.below hb7)
  have HR7 := Calm.hid hr7
  clear hr7 ht7 hb7 HZ6
  have hB7 : ∀ q : Kept w7, Below w.heap.size w q.world := fun q => HB7.out.trans (q.below.mono HB7.out.size)
  have ho7 : ∀ q : Kept w7, Calls Tryd.prog 15 #[.slice p b.length c] q.world fun en w' => en = .returned (.agg (arr (digest b))) ∧ Below q.world.heap.size q.world w' := fun q =>
    ofR_any b p c q.world (HB.out.below (hB7 q)) (by omega)
  have ht7 : ∀ q : Kept w7, Calls Tryd.prog 16 #[.agg (arr (digest b))] q.world fun en w' => en = .returned (.string ⟨(hexOf (digest b)).toArray⟩) ∧ Below q.world.heap.size q.world w' := fun q => text_any (digest b) (digest_length b) q.world
  have hu7 : ∀ q : Kept w7, Calls Tryd.prog 17 #[.agg (arr (digest b))] q.world fun en w' => en = .returned (.string ⟨(hexOf (digest b)).toArray⟩) ∧ Below q.world.heap.size q.world w' := fun q => textR_any (digest b) (digest_length b) q.world
  have hw7 : ∀ q : Kept w7, Calls Tryd.prog 13 #[] q.world fun en w' => en = .returned (.bool true) ∧ Below q.world.heap.size q.world w' := fun q => wakes_any q.world (HK.out.below (hB7 q))
  have hl7 : ∀ q : Kept w7, (Instr.loadAt 25 (.pointer (some ⟨w6.heap.size, 0, none⟩))).run Tryd.prog q.world = .ok (.agg (arr (digest b))) q.world := fun q =>
    load25 (HR7.out.below q.below) (digest_length b)
  have hc1 : ∀ q : Kept w7, (convert 22 9 (.slice p1 b.length c1)).run Tryd.prog q.world = .ok (.string ⟨b.toArray⟩) q.world := fun q => (HY7.out.below q.below).str Tryd.underlying22 Tryd.underlying5 Tryd.underlying9
  have hc0 : ∀ q : Kept w7, (convert 22 9 (.slice p b.length c)).run Tryd.prog q.world = .ok (.string ⟨b.toArray⟩) q.world := fun q => (HB.out.below (hB7 q)).str Tryd.underlying22 Tryd.underlying5 Tryd.underlying9
  have he7 := fun w => eq25 (digest b) (digest b) (digest_length _) (digest_length _) w
  rw [decide_eq_true rfl] at he7
  have HO7 := Calm.hid ho7
  have HT7 := Calm.hid ht7
  have HU7 := Calm.hid hu7
  have HW7 := Calm.hid hw7
  have HL7 := Calm.hid hl7
  clear ho7 ht7 hu7 hw7 hl7 hB7
  go_frame
  refine Calm.region_k 21 (by kernel_rfl) (by kernel_rfl) ?_
  simp only [List.take_succ_cons, List.take_zero, List.drop_succ_cons, List.drop_zero]
  refine wpQuiet_load rfl 25 (.tmp 4) rfl w6.heap.size rfl _ (by rintro _ ⟨q, rfl⟩; exact HL7.out q) ?_
  go_frame
  repeat (go_big_quiet_step (first | (go_at_call 15; exact Kept.call (HO7.out _))))
  refine wpQuiet_load rfl 25 (.tmp 4) rfl w6.heap.size rfl _ (by rintro _ ⟨q, rfl⟩; exact HL7.out q) ?_
  go_frame
  repeat (go_big_quiet_step (first | (go_at_call 16; exact Kept.call (HT7.out _))))
  refine wpQuiet_load rfl 25 (.tmp 4) rfl w6.heap.size rfl _ (by rintro _ ⟨q, rfl⟩; exact HL7.out q) ?_
  go_frame
  repeat (go_big_quiet_step (first | (go_at_call 17; exact Kept.call (HU7.out _)) | (go_at_call 13; exact Kept.call (HW7.out _))))
  refine wpQuiet_nil ?_
  rintro _ ⟨nq, rfl⟩
  clear hc0 hc1 he7
  have HB8 := Calm.hid (HB7.out.trans (nq.below.mono HB7.out.size))
  go_wp2
  go_ret
  exact ⟨rfl, HB8.out⟩

set_option maxRecDepth 100000 in
set_option maxHeartbeats 1000000 in
theorem shaTexts_walk (a b : List UInt8) (ha : a.length = 32) (hb : b.length = 32) (w : World) (hK : HasK w) :
    Calls Tryd.prog 4 #[.agg (arr a), .agg (arr b)] w fun en w' => en = .returned (.bool true) ∧ Below w.heap.size w w' := by
  have HK := Calm.hid hK
  have hguard := Tryd.noGuard25
  obtain ⟨A, hA⟩ : ∃ A, A = arr a := ⟨_, rfl⟩
  obtain ⟨B, hB⟩ : ∃ B, B = arr b := ⟨_, rfl⟩
  have hra : Rw ((w.alloc (.cells A 25)).alloc (.cells B 25)) w.heap.size (a.map bv) 25 := by rw [hA]; exact (two_new w 25 _ _).1
  have hrb : Rw ((w.alloc (.cells A 25)).alloc (.cells B 25)) (w.heap.size + 1) (b.map bv) 25 := by rw [hB]; exact (two_new w 25 _ _).2
  have hK2 : HasK ((w.alloc (.cells A 25)).alloc (.cells B 25)) := hK.turns (((Turns.refl (fun _ => False) w).alloc _).alloc _) (fun h => h)
  have hbel : Below w.heap.size w ((w.alloc (.cells A 25)).alloc (.cells B 25)) := ((Below.refl _ _).alloc (Nat.le_refl _) _).alloc (by simp) _
  obtain ⟨w2, hw2⟩ : ∃ w2, w2 = (w.alloc (.cells A 25)).alloc (.cells B 25) := ⟨_, rfl⟩
  rw [← hw2] at hra hrb hK2 hbel
  have ht7 : ∀ q : Kept w2, Calls Tryd.prog 16 #[.agg (arr a)] q.world fun en w' => en = .returned (.string ⟨(hexOf a).toArray⟩) ∧ Below q.world.heap.size q.world w' := fun q => text_any a ha q.world
  have hs7 : ∀ q : Kept w2, Calls Tryd.prog 16 #[.agg (arr b)] q.world fun en w' => en = .returned (.string ⟨(hexOf b).toArray⟩) ∧ Below q.world.heap.size q.world w' := fun q => text_any b hb q.world
  have hu7 : ∀ q : Kept w2, Calls Tryd.prog 17 #[.agg (arr a)] q.world fun en w' => en = .returned (.string ⟨(hexOf a).toArray⟩) ∧ Below q.world.heap.size q.world w' := fun q => textR_any a ha q.world
  have hw7 : ∀ q : Kept w2, Calls Tryd.prog 13 #[] q.world fun en w' => en = .returned (.bool true) ∧ Below q.world.heap.size q.world w' := fun q => wakes_any q.world (hK2.below q.below)
  have hla : ∀ q : Kept w2, (Instr.loadAt 25 (.pointer (some ⟨w.heap.size, 0, none⟩))).run Tryd.prog q.world = .ok (.agg A) q.world := fun q => by rw [hA]; exact load25 (hra.below q.below) ha
  have hlb : ∀ q : Kept w2, (Instr.loadAt 25 (.pointer (some ⟨w.heap.size + 1, 0, none⟩))).run Tryd.prog q.world = .ok (.agg B) q.world := fun q => by rw [hB]; exact load25 (hrb.below q.below) hb
  obtain ⟨sa, hsa⟩ : ∃ s : ByteArray, s = ⟨(hexOf a).toArray⟩ := ⟨_, rfl⟩
  obtain ⟨sb, hsb⟩ : ∃ s : ByteArray, s = ⟨(hexOf b).toArray⟩ := ⟨_, rfl⟩
  have hsz : sa.size = 64 := by rw [hsa]; show (hexOf a).toArray.size = 64; rw [List.size_toArray, hexOf_length, ha]
  have he7 := fun w => eq25 a b ha hb w
  have hab : (sa = sb) ↔ (a = b) := by
    constructor
    · intro h
      rw [hsa, hsb] at h
      injection h with h
      exact hexOf_inj a b (by simpa using h)
    · rintro rfl; rw [hsa, hsb]
  rw [← hsa] at ht7 hu7
  rw [← hsb] at hs7
  rw [← hA] at ht7 hu7 he7
  rw [← hB] at hs7 he7
  have HAB := Calm.hid hab
  have HA := Calm.hid hA
  have HB := Calm.hid hB
  have HT7 := Calm.hid ht7
  have HS7 := Calm.hid hs7
  have HU7 := Calm.hid hu7
  have HW7 := Calm.hid hw7
  have HLA := Calm.hid hla
  have HLB := Calm.hid hlb
  have HBE := Calm.hid hbel
  have HW2 := Calm.hid hw2
  have HE7 := Calm.hid he7
  rw [← hA, ← hB]
  clear hab hA hB ht7 hs7 hu7 hw7 hla hlb hbel hra hrb hK hK2 hsa hsb he7 hw2
  go_enter Tryd.func4, Tryd.ntmps4
  go_wp2
  rw [← HW2.out]
  by_cases hd : a = b
  · have hds := HAB.out.2 hd
    have he7 := HE7.out
    rw [decide_eq_true hd] at he7
    clear hd
    subst hds
    refine Calm.region_k 25 (by kernel_rfl) (by kernel_rfl) ?_
    simp only [List.take_succ_cons, List.take_zero, List.drop_succ_cons, List.drop_zero]
    refine wpQuiet_load rfl 25 (.tmp 2) rfl w.heap.size rfl _ (by rintro _ ⟨q, rfl⟩; exact HLA.out q) ?_
    go_frame
    repeat (go_big_quiet_step (first | (go_at_call 16; exact Kept.call (HT7.out _)) | (go_at_call 17; exact Kept.call (HU7.out _)) | (go_at_call 13; exact Kept.call (HW7.out _))))
    refine wpQuiet_load rfl 25 (.tmp 2) rfl w.heap.size rfl _ (by rintro _ ⟨q, rfl⟩; exact HLA.out q) ?_
    go_frame
    repeat (go_big_quiet_step (first | (go_at_call 16; exact Kept.call (HT7.out _)) | (go_at_call 17; exact Kept.call (HU7.out _)) | (go_at_call 13; exact Kept.call (HW7.out _))))
    refine wpQuiet_load rfl 25 (.tmp 2) rfl w.heap.size rfl _ (by rintro _ ⟨q, rfl⟩; exact HLA.out q) ?_
    go_frame
    repeat (go_big_quiet_step (first | (go_at_call 16; exact Kept.call (HT7.out _)) | (go_at_call 17; exact Kept.call (HU7.out _)) | (go_at_call 13; exact Kept.call (HW7.out _))))
    refine wpQuiet_load rfl 25 (.tmp 2) rfl w.heap.size rfl _ (by rintro _ ⟨q, rfl⟩; exact HLA.out q) ?_
    go_frame
    repeat (go_big_quiet_step (first | (go_at_call 16; exact Kept.call (HT7.out _)) | (go_at_call 17; exact Kept.call (HU7.out _)) | (go_at_call 13; exact Kept.call (HW7.out _))))
    refine wpQuiet_load rfl 25 (.tmp 3) rfl (w.heap.size + 1) rfl _ (by rintro _ ⟨q, rfl⟩; exact HLB.out q) ?_
    go_frame
    repeat (go_big_quiet_step (first | (go_at_call 16; exact Kept.call (HS7.out _))))
    refine wpQuiet_load rfl 25 (.tmp 2) rfl w.heap.size rfl _ (by rintro _ ⟨q, rfl⟩; exact HLA.out q) ?_
    go_frame
    refine wpQuiet_load rfl 25 (.tmp 3) rfl (w.heap.size + 1) rfl _ (by rintro _ ⟨q, rfl⟩; exact HLB.out q) ?_
    go_frame
    repeat (go_big_quiet_step (first | (go_at_call 16; exact Kept.call (HT7.out _)) | (go_at_call 17; exact Kept.call (HU7.out _)) | (go_at_call 13; exact Kept.call (HW7.out _))))
    refine wpQuiet_nil ?_
    rintro _ ⟨nq, rfl⟩
    have HB8 := Calm.hid (HBE.out.trans (nq.below.mono HBE.out.size))
    go_wp2
    go_ret
    exact ⟨rfl, HB8.out⟩
  · have hds : (sa.toList == sb.toList) = false := by
      rw [beq_eq_false_iff_ne, ByteArray.toList_eq, ByteArray.toList_eq]
      exact fun h => hd (HAB.out.1 (ByteArray.ext (Array.toList_inj.1 h)))
    have he7 := HE7.out
    rw [decide_eq_false hd] at he7
    clear hd
    refine Calm.region_k 25 (by kernel_rfl) (by kernel_rfl) ?_
    simp only [List.take_succ_cons, List.take_zero, List.drop_succ_cons, List.drop_zero]
    refine wpQuiet_load rfl 25 (.tmp 2) rfl w.heap.size rfl _ (by rintro _ ⟨q, rfl⟩; exact HLA.out q) ?_
    go_frame
    repeat (go_big_quiet_step (first | (go_at_call 16; exact Kept.call (HT7.out _)) | (go_at_call 17; exact Kept.call (HU7.out _)) | (go_at_call 13; exact Kept.call (HW7.out _))))
    refine wpQuiet_load rfl 25 (.tmp 2) rfl w.heap.size rfl _ (by rintro _ ⟨q, rfl⟩; exact HLA.out q) ?_
    go_frame
    repeat (go_big_quiet_step (first | (go_at_call 16; exact Kept.call (HT7.out _)) | (go_at_call 17; exact Kept.call (HU7.out _)) | (go_at_call 13; exact Kept.call (HW7.out _))))
    refine wpQuiet_load rfl 25 (.tmp 2) rfl w.heap.size rfl _ (by rintro _ ⟨q, rfl⟩; exact HLA.out q) ?_
    go_frame
    repeat (go_big_quiet_step (first | (go_at_call 16; exact Kept.call (HT7.out _)) | (go_at_call 17; exact Kept.call (HU7.out _)) | (go_at_call 13; exact Kept.call (HW7.out _))))
    refine wpQuiet_load rfl 25 (.tmp 2) rfl w.heap.size rfl _ (by rintro _ ⟨q, rfl⟩; exact HLA.out q) ?_
    go_frame
    repeat (go_big_quiet_step (first | (go_at_call 16; exact Kept.call (HT7.out _)) | (go_at_call 17; exact Kept.call (HU7.out _)) | (go_at_call 13; exact Kept.call (HW7.out _))))
    refine wpQuiet_load rfl 25 (.tmp 3) rfl (w.heap.size + 1) rfl _ (by rintro _ ⟨q, rfl⟩; exact HLB.out q) ?_
    go_frame
    repeat (go_big_quiet_step (first | (go_at_call 16; exact Kept.call (HS7.out _))))
    refine wpQuiet_load rfl 25 (.tmp 2) rfl w.heap.size rfl _ (by rintro _ ⟨q, rfl⟩; exact HLA.out q) ?_
    go_frame
    refine wpQuiet_load rfl 25 (.tmp 3) rfl (w.heap.size + 1) rfl _ (by rintro _ ⟨q, rfl⟩; exact HLB.out q) ?_
    go_frame
    repeat (go_big_quiet_step (first | (go_at_call 16; exact Kept.call (HT7.out _)) | (go_at_call 17; exact Kept.call (HU7.out _)) | (go_at_call 13; exact Kept.call (HW7.out _))))
    refine wpQuiet_nil ?_
    rintro _ ⟨nq, rfl⟩
    have HB8 := Calm.hid (HBE.out.trans (nq.below.mono HBE.out.size))
    go_wp2
    go_ret
    exact ⟨rfl, HB8.out⟩
/-- The same walk in the shape in which the card's text takes it. -/
theorem shaTexts_card (a b : List UInt8) (w : World) (ha : a.length = 32) (hb : b.length = 32) (hK : HasK w) :
    Calls Tryd.prog 4 #[.agg (arr a), .agg (arr b)] w fun en w' => en = .returned (.bool true) ∧ Below w.heap.size w w' := shaTexts_walk a b ha hb w hK
end Go.Proofs.YtpbahoapjkmcjaaDoor
