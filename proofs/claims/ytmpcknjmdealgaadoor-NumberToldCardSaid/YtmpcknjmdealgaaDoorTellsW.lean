/-
  tells: the example is told and read; NumberTexts, NumberParses.
-/
import Derived.Test.YtmpcknjmdealgaaDoorParseR
import Derived.Laws.StructEq
namespace Go.Proofs.YtmpcknjmdealgaaDoor
open Go.RowKit Go.Sha Go.Calm
theorem eq24 (a b c d : Int) (w : World) : (Op.equalIn 10000 24 (.agg #[.int .u8 a, .int .u64 b]) (.agg #[.int .u8 c, .int .u64 d])).run Tryd.prog w = .ok (decide (a = c) && decide (b = d)) w := by
  have u5 := Tryd.underlying5
  have a5 := Tryd.isAgg5
  have z5 := Tryd.sizeOf5
  have u22 := Tryd.underlying22
  have a22 := Tryd.isAgg22
  have z22 := Tryd.sizeOf22
  have hS : Tryd.prog.underlying 24 = some (.struct (Tryd.prog.fieldsOf 24)) := by kernel_rfl
  have hp : Tryd.prog.stoodInHeld 24 = false := by kernel_rfl
  rw [show (10000 : Nat) = 9999 + 1 from rfl, run_equalIn_agg w 9999 24 _ _ hS hp]
  simp only [Program.fieldsOf, Tryd.underlying24]
  go_simp
  by_cases h1 : a = c <;> by_cases h2 : b = d <;> simp [h1, h2]
theorem eq24_same (a b : Int) (w : World) : (Op.equalIn 10000 24 (.agg #[.int .u8 a, .int .u64 b]) (.agg #[.int .u8 a, .int .u64 b])).run Tryd.prog w = .ok true w := by
  rw [eq24]; simp
def example14 : List UInt8 := [48, 48, 49, 48, 48, 48, 48, 48, 48, 48, 48, 48, 49, 53]
theorem example_text : textV 1 1 = .tuple #[.string ⟨example14.toArray⟩, .int .i64 0] := by kernel_rfl
theorem example_parse : parseV example14 = .tuple #[.agg #[.int .u8 1, .int .u64 1], .int .i64 0] := by kernel_rfl
set_option maxRecDepth 100000 in
theorem tells_any (w : World) (ht : HasT w) : Calls Tryd.prog 11 #[] w fun e w' => e = .returned (.bool true) ∧ Below w.heap.size w w' := by
  have HT := Calm.hid ht
  have HX := Calm.hid example_text
  have HP := Calm.hid example_parse
  have he := eq24_same 1 1
  have hg : Tryd.prog.eqGuardType Tryd.prog.depth 24 = false := by kernel_rfl
  clear ht
  go_enter Tryd.func11, Tryd.ntmps11
  go_wp2_with fail
  refine (text_any 1 1 (by decide) (by decide) w HT.out).mono ?_
  rintro e w2 ⟨rfl, hb2⟩
  rw [HX.out]
  have HB2 := Calm.hid hb2
  clear hb2
  go_wp2_with fail
  refine (parse_any example14 (by decide) w2).mono ?_
  rintro e w3 ⟨rfl, hb3⟩
  rw [HP.out]
  have HB3 := Calm.hid (HB2.out.trans (hb3.mono HB2.out.size))
  clear hb3
  go_wp2
  go_ret
  exact ⟨rfl, HB3.out.alloc HB3.out.size _⟩
theorem textV_shape (c s : Nat) : ∃ S e, textV c s = .tuple #[.string S, .int .i64 e] := by
  unfold textV; split
  · exact ⟨_, _, rfl⟩
  · exact ⟨_, _, rfl⟩
theorem parseV_shape (l : List UInt8) : ∃ a b e, parseV l = .tuple #[.agg #[.int .u8 a, .int .u64 b], .int .i64 e] := by
  unfold parseV parseT ticketV
  split
  · exact ⟨_, _, _, rfl⟩
  · exact ⟨_, _, _, rfl⟩
set_option maxRecDepth 100000 in
theorem texts_walk (c s : Nat) (hc : c < 256) (hs : s < 18446744073709551616) (w : World) (ht : HasT w) :
    Calls Tryd.prog 3 #[.agg #[.int .u8 c, .int .u64 s]] w fun e w' => e = .returned (.bool true) ∧ Below w.heap.size w w' := by
  obtain ⟨S, e0, hV⟩ := textV_shape c s
  have HV := Calm.hid hV
  have hw1 : Below w.heap.size w (w.alloc (.cells #[.int .u8 c, .int .u64 s] 24)) := (Below.refl _ _).alloc (Nat.le_refl _) _
  have hrw : Rw (w.alloc (.cells #[.int .u8 c, .int .u64 s] 24)) w.heap.size [.int .u8 c, .int .u64 s] 24 := Rw.new w _ 24
  obtain ⟨w1, hw1e⟩ : ∃ w1, w1 = w.alloc (.cells #[.int .u8 c, .int .u64 s] 24) := ⟨_, rfl⟩
  rw [← hw1e] at hw1 hrw
  have HE := Calm.hid hw1e
  have HW1 := Calm.hid hw1
  have HR := Calm.hid hrw
  have HT := Calm.hid (ht.below hw1)
  clear hw1e hw1 hrw ht hV
  go_enter Tryd.func3, Tryd.ntmps3
  go_wp2_with fail
  rw [← HE.out]
  refine (text_any c s hc hs w1 HT.out).mono ?_
  rintro e w2 ⟨rfl, hb2⟩
  rw [HV.out]
  have HB2 := Calm.hid (HW1.out.trans (hb2.mono HW1.out.size))
  have HT2 := Calm.hid (HT.out.below hb2)
  have c0 := (HR.out.below hb2).cell (i := 0) rfl
  have c1 := (HR.out.below hb2).cell (i := 1) rfl
  clear hb2
  go_wp2_with fail
  refine (textR_any c s hc hs w2).mono ?_
  rintro e w3 ⟨rfl, hb3⟩
  rw [HV.out]
  have HB3 := Calm.hid (HB2.out.trans (hb3.mono HB2.out.size))
  have HT3 := Calm.hid (HT2.out.below hb3)
  clear hb3 c0 c1
  go_wp2_with fail
  refine (tells_any w3 HT3.out).mono ?_
  rintro e w4 ⟨rfl, hb4⟩
  have HB4 := Calm.hid (HB3.out.trans (hb4.mono HB3.out.size))
  clear hb4
  go_wp2
  go_ret
  exact ⟨rfl, HB4.out⟩
set_option maxRecDepth 100000 in
theorem parses_walk (l : List UInt8) (w : World) (ht : HasT w) :
    Calls Tryd.prog 4 #[.string ⟨l.toArray⟩] w fun e w' => e = .returned (.bool true) ∧ Below w.heap.size w w' := by
  obtain ⟨a, b, e0, hV⟩ := parseV_shape l
  obtain ⟨s, hs⟩ : ∃ s : ByteArray, s = ⟨l.toArray⟩ := ⟨_, rfl⟩
  have hsz : s.size = l.length := by rw [hs]; simp [ByteArray.size]
  rw [← hs]
  have HS := Calm.hid hs
  have HV := Calm.hid hV
  have HT := Calm.hid ht
  have he := eq24_same a b
  have hg : Tryd.prog.eqGuardType Tryd.prog.depth 24 = false := by kernel_rfl
  clear hs hV ht
  by_cases h : 2000 < l.length
  · have hd : decide (2000 < (l.length : Int)) = true := by simp; omega
    go_enter Tryd.func4, Tryd.ntmps4
    go_wp2
    go_ret
    exact ⟨rfl, Below.refl _ _⟩
  · have hd : decide (2000 < (l.length : Int)) = false := by simp; omega
    go_enter Tryd.func4, Tryd.ntmps4
    go_wp2_with fail
    rw [HS.out]
    refine (parse_any l (by omega) w).mono ?_
    rintro e w2 ⟨rfl, hb2⟩
    rw [HV.out, ← HS.out]
    have HB2 := Calm.hid (hb2.alloc hb2.size (.cells #[.int .u8 a, .int .u64 b] 24))
    have HR2 : Hid (Rw (w2.alloc (.cells #[.int .u8 a, .int .u64 b] 24)) w2.heap.size [.int .u8 a, .int .u64 b] 24) := Rw.new w2 _ 24
    clear hb2
    go_wp2_with fail
    rw [HS.out]
    refine (parseR_any l (by omega) _).mono ?_
    rintro e w3 ⟨rfl, hb3⟩
    rw [HV.out, ← HS.out]
    have HB3 := Calm.hid (HB2.out.trans (hb3.mono HB2.out.size))
    have HR3 := Calm.hid (HR2.out.below hb3)
    have hr3 : Rw (w3.alloc (.cells #[.int .u8 a, .int .u64 b] 24)) w2.heap.size [.int .u8 a, .int .u64 b] 24 := HR3.out.alloc _
    have c0 := hr3.cell (i := 0) rfl
    have c1 := hr3.cell (i := 1) rfl
    have HB4 := Calm.hid (HB3.out.alloc HB3.out.size (.cells #[.int .u8 a, .int .u64 b] 24))
    have HT4 := Calm.hid (HT.out.below HB4.out)
    clear hb3 hr3
    go_wp2_with fail
    refine (tells_any _ HT4.out).mono ?_
    rintro e w5 ⟨rfl, hb5⟩
    have HB5 := Calm.hid (HB4.out.trans (hb5.mono HB4.out.size))
    clear hb5
    go_wp2
    go_ret
    exact ⟨rfl, HB5.out⟩
end Go.Proofs.YtmpcknjmdealgaaDoor
