/-
  The chapter's examples, and limits; the walk of NumberKnown.
-/
import Derived.Test.YtmpcknjmdealgaaDoorBackW
namespace Go.Proofs.YtmpcknjmdealgaaDoor
open Go.RowKit Go.Sha Go.Calm
def exs : List (List UInt8 × Nat) := [
  ([48, 48, 49, 48, 48, 48, 48, 48, 48, 48, 48, 48, 49, 54], 70), ([48, 48, 49, 48, 48, 48, 48, 48, 48, 48, 48, 48, 49], 90), ([48, 48, 49, 48, 48, 48, 48, 48, 48, 48, 48, 48, 49, 53, 53], 90),
  ([48, 48, 49, 48, 48, 48, 48, 48, 48, 48, 48, 97, 49, 53], 90), ([], 90), ([32, 48, 49, 48, 48, 48, 48, 48, 48, 48, 48, 48, 49, 53], 90), ([48, 48, 48, 48, 48, 48, 48, 48, 48, 48, 48, 48, 48, 48], 1), ([48, 48, 48, 48, 48, 48, 48, 48, 48, 48, 48, 48, 49, 49], 0)]
def exCells : List Value := exs.flatMap fun x => [.string ⟨x.1.toArray⟩, .int .i64 x.2]
def exS (i : Nat) : List UInt8 := (exs.getD i ([], 0)).1
def exE (i : Nat) : Nat := (exs.getD i ([], 0)).2
theorem exs_facts : ∀ i, i < 8 → parseE (exS i) = exE i ∧ (exS i).length ≤ 15 ∧ exCells[i * 2]? = some (.string ⟨(exS i).toArray⟩) ∧ exCells[i * 2 + 1]? = some (.int .i64 (exE i)) := by
  intro i hi
  have h1 : ∀ i, i < 8 → parseE (exS i) = exE i ∧ (exS i).length ≤ 15 := by decide +kernel
  refine ⟨(h1 i hi).1, (h1 i hi).2, ?_, ?_⟩
  · match i, hi with
    | 0, _ | 1, _ | 2, _ | 3, _ | 4, _ | 5, _ | 6, _ | 7, _ => rfl
  · match i, hi with
    | 0, _ | 1, _ | 2, _ | 3, _ | 4, _ | 5, _ | 6, _ | 7, _ => rfl
theorem last_text : textV 7 9999999999 = .tuple #[.string ⟨(textOf 7 9999999999).toArray⟩, .int .i64 0] := textV_yes (by decide)
theorem no8 : textV 8 1 = .tuple #[.string ⟨#[]⟩, .int .i64 1] := textV_no (by decide)
theorem no7 : textV 7 0 = .tuple #[.string ⟨#[]⟩, .int .i64 1] := textV_no (by decide)
theorem noMax : textV 7 10000000000 = .tuple #[.string ⟨#[]⟩, .int .i64 1] := textV_no (by decide)
set_option maxRecDepth 100000 in
set_option maxHeartbeats 1000000 in
theorem known_walk (w : World) (ht : HasT w) : Calls Tryd.prog 7 #[] w fun e w' => e = .returned (.bool true) ∧ Below w.heap.size w w' := by
  have HT := Calm.hid ht
  have hg : Tryd.prog.eqGuardType Tryd.prog.depth 24 = false := by kernel_rfl
  have hrow : Rw (w.alloc (.cells exCells.toArray 37)) w.heap.size exCells 37 := Rw.new w _ 37
  have hbel : Below w.heap.size w (w.alloc (.cells exCells.toArray 37)) := (Below.refl _ _).alloc (Nat.le_refl _) _
  clear ht
  go_enter Tryd.func7, Tryd.ntmps7
  go_wp2_with fail
  have e1 : (#[.string ⟨#[48, 48, 49, 48, 48, 48, 48, 48, 48, 48, 48, 48, 49, 54]⟩, .int .i64 70, .string ⟨#[48, 48, 49, 48, 48, 48, 48, 48, 48, 48, 48, 48, 49]⟩, .int .i64 90, .string ⟨#[48, 48, 49, 48, 48, 48, 48, 48, 48, 48, 48, 48, 49, 53, 53]⟩, .int .i64 90, .string ⟨#[48, 48, 49, 48, 48, 48, 48, 48, 48, 48, 48, 97, 49, 53]⟩, .int .i64 90, .string ⟨#[]⟩, .int .i64 90, .string ⟨#[32, 48, 49, 48, 48, 48, 48, 48, 48, 48, 48, 48, 49, 53]⟩, .int .i64 90, .string ⟨#[48, 48, 48, 48, 48, 48, 48, 48, 48, 48, 48, 48, 48, 48]⟩, .int .i64 1, .string ⟨#[48, 48, 48, 48, 48, 48, 48, 48, 48, 48, 48, 48, 49, 49]⟩, .int .i64 0] : Array Value) = exCells.toArray := by kernel_rfl
  rw [e1]
  clear e1
  obtain ⟨w1, hw1⟩ : ∃ w1, w1 = w.alloc (.cells exCells.toArray 37) := ⟨_, rfl⟩
  rw [← hw1] at hrow hbel ⊢
  have HR := Calm.hid hrow
  have HB := Calm.hid hbel
  clear hrow hbel hw1
  go_loopw [2] (fun t wr => ∃ i : Nat, i ≤ 8 ∧ t = .int .i64 i ∧ Below w1.heap.size w1 wr) (fun t _ => 8 - (intOf t).toNat)
  case atStart => exact ⟨0, by omega, rfl, Below.refl _ _⟩
  case round =>
    obtain ⟨i, hi, rfl, hbr⟩ := hrel
    have HBR := Calm.hid hbr
    clear hbr
    by_cases hlt : i < 8
    · obtain ⟨f1, f2, f3, f4⟩ := exs_facts i hlt
      obtain ⟨l, hl⟩ : ∃ l, l = exS i := ⟨_, rfl⟩
      obtain ⟨z, hz⟩ : ∃ z, z = exE i := ⟨_, rfl⟩
      rw [← hl] at f1 f2 f3
      rw [← hz] at f1 f4
      obtain ⟨b, hb⟩ : ∃ b : ByteArray, b = ⟨l.toArray⟩ := ⟨_, rfl⟩
      rw [← hb] at f3
      have HBB := Calm.hid hb
      have c0 : wr.cell? ⟨w.heap.size, i * 2, none⟩ = some (.string b) := (HR.out.below HBR.out).cell f3
      have c1 : wr.cell? ⟨w.heap.size, i * 2 + 1, none⟩ = some (.int .i64 z) := (HR.out.below HBR.out).cell f4
      have F1 := Calm.hid f1
      have F2 := Calm.hid f2
      clear hl hz hb f1 f2 f3 f4
      by_cases hz0 : z = 0
      · obtain ⟨a, d, hV⟩ : ∃ a d, parseV l = .tuple #[.agg #[.int .u8 a, .int .u64 d], .int .i64 0] := by
          unfold parseV parseT ticketV
          rw [F1.out, hz0]
          exact ⟨_, _, rfl⟩
        have HV := Calm.hid hV
        subst hz0
        clear hV
        go_wp2_with fail
        rw [HBB.out]
        refine (parse_any l (by have := F2.out; omega) wr).mono ?_
        rintro e w2 ⟨rfl, hb2⟩
        rw [HV.out]
        have HB2 := Calm.hid (HBR.out.trans ((hb2.alloc hb2.size (.cells #[.int .u8 a, .int .u64 d] 24)).mono HBR.out.size))
        have c2 : (w2.alloc (.cells #[.int .u8 a, .int .u64 d] 24)).cell? ⟨w.heap.size, i * 2 + 1, none⟩ = some (.int .i64 0) := by
          have h1 := HBR.out.cell (p := ⟨w.heap.size, i * 2 + 1, none⟩) HR.out.lt
          have h2 := HB2.out.cell (p := ⟨w.heap.size, i * 2 + 1, none⟩) HR.out.lt
          rw [h2, ← h1]; exact c1
        clear hb2 c0 c1
        go_wp2
        go_roundw
        case rel => exact ⟨i + 1, by omega, by go_num, HB2.out⟩
        case measure => simp [intOf]; omega
      · have HV : Hid (parseV l = .tuple #[.agg #[.int .u8 0, .int .u64 0], .int .i64 z]) := by
          show parseV l = _
          unfold parseV parseT ticketV
          rw [F1.out, if_neg hz0]; rfl
        have hzi : ((z : Int) != 0) = true := by simp; omega
        have he := eq24_same 0 0
        go_wp2_with fail
        rw [HBB.out]
        refine (parse_any l (by have := F2.out; omega) wr).mono ?_
        rintro e w2 ⟨rfl, hb2⟩
        rw [HV.out]
        have HB2 := Calm.hid (HBR.out.trans ((hb2.alloc hb2.size (.cells #[.int .u8 0, .int .u64 0] 24)).mono HBR.out.size))
        have c2 : (w2.alloc (.cells #[.int .u8 0, .int .u64 0] 24)).cell? ⟨w.heap.size, i * 2 + 1, none⟩ = some (.int .i64 z) := by
          have h1 := HBR.out.cell (p := ⟨w.heap.size, i * 2 + 1, none⟩) HR.out.lt
          have h2 := HB2.out.cell (p := ⟨w.heap.size, i * 2 + 1, none⟩) HR.out.lt
          rw [h2, ← h1]; exact c1
        clear hb2 c0 c1
        go_wp2
        go_roundw
        case rel => exact ⟨i + 1, by omega, by go_num, HB2.out⟩
        case measure => simp [intOf]; omega
    · have HI : Hid (i = 8) := show i = 8 by omega
      have HW : Hid (Below w.heap.size w wr) := HB.out.trans (HBR.out.mono HB.out.size)
      have HTr := Calm.hid (HT.out.below HW.out)
      have H8 := Calm.hid no8
      have H7 := Calm.hid no7
      have HX := Calm.hid noMax
      have HL := Calm.hid last_text
      have HP := Calm.hid (parse_text (c := 7) (s := 9999999999) (by decide))
      go_wp2_with fail
      refine (text_any 8 1 (by decide) (by decide) wr HTr.out).mono ?_
      rintro e w2 ⟨rfl, hb2⟩
      rw [H8.out]
      have HB2 := Calm.hid (HW.out.trans (hb2.mono HW.out.size))
      have HT2 := Calm.hid (HT.out.below HB2.out)
      clear hb2
      go_wp2_with fail
      refine (text_any 7 0 (by decide) (by decide) w2 HT2.out).mono ?_
      rintro e w3 ⟨rfl, hb3⟩
      rw [H7.out]
      have HB3 := Calm.hid (HB2.out.trans (hb3.mono HB2.out.size))
      have HT3 := Calm.hid (HT.out.below HB3.out)
      clear hb3
      go_wp2_with fail
      refine (text_any 7 10000000000 (by decide) (by decide) w3 HT3.out).mono ?_
      rintro e w4 ⟨rfl, hb4⟩
      rw [HX.out]
      have HB4 := Calm.hid (HB3.out.trans (hb4.mono HB3.out.size))
      have HT4 := Calm.hid (HT.out.below HB4.out)
      clear hb4
      go_wp2_with fail
      refine (text_any 7 9999999999 (by decide) (by decide) w4 HT4.out).mono ?_
      rintro e w5 ⟨rfl, hb5⟩
      rw [HL.out]
      have HB5 := Calm.hid (HB4.out.trans (hb5.mono HB4.out.size))
      have HT5 := Calm.hid (HT.out.below HB5.out)
      clear hb5
      obtain ⟨st, hst⟩ : ∃ st : ByteArray, st = ⟨(textOf 7 9999999999).toArray⟩ := ⟨_, rfl⟩
      have HST := Calm.hid hst
      rw [← hst]
      have hsz : st.size = 14 := by rw [hst]; show (textOf 7 9999999999).toArray.size = 14; rw [List.size_toArray, textOf_length]
      have hex : st.extract 0 13 = ⟨#[48, 48, 55, 57, 57, 57, 57, 57, 57, 57, 57, 57, 57]⟩ := by rw [hst]; kernel_rfl
      clear hst
      go_wp2_with fail
      rw [HST.out]
      refine (parse_any (textOf 7 9999999999) (by rw [textOf_length]; decide) w5).mono ?_
      rintro e w6 ⟨rfl, hb6⟩
      rw [HP.out, ← HST.out]
      unfold ticketV
      have HB6 := Calm.hid ((HB5.out.trans (hb6.mono HB5.out.size)).alloc (Nat.le_trans HB5.out.size hb6.size) (.cells #[.int .u8 7, .int .u64 9999999999] 24))
      have HT6 := Calm.hid (HT.out.below HB6.out)
      clear hb6
      go_wp2_with fail
      refine (tells_any _ HT6.out).mono ?_
      rintro e w7 ⟨rfl, hb7⟩
      have HB7 := Calm.hid (HB6.out.trans (hb7.mono HB6.out.size))
      clear hb7
      go_wp2
      go_ret
      exact ⟨rfl, HB7.out⟩
end Go.Proofs.YtmpcknjmdealgaaDoor
