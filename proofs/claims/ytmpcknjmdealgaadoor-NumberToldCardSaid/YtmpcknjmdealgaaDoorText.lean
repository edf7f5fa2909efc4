/-
  A ticket's text, by the program and by the document.
-/
import Derived.Test.YtmpcknjmdealgaaDoorParts
import Derived.Test.YtmpcknjmdealgaaDoorCalmA
namespace Go.Proofs.YtmpcknjmdealgaaDoor
open Go.RowKit Go.Sha Go.Calm
/-- The thirteen digits, and the text. -/
def thirteen (c s : Nat) : List UInt8 := digs c 3 ++ digs s 10
def textOf (c s : Nat) : List UInt8 := thirteen c s ++ [UInt8.ofNat (48 + (c * 10000000000 + s) % 7)]
theorem thirteen_length (c s : Nat) : (thirteen c s).length = 13 := by simp [thirteen, digs_length]
theorem thirteen_all (c s : Nat) : (thirteen c s).all isDig = true := by rw [thirteen, List.all_append, digs_all, digs_all]; rfl
theorem valN_thirteen {c s : Nat} (hc : c < 1000) (hs : s < 10000000000) : valN (thirteen c s) = c * 10000000000 + s := by
  rw [thirteen, valN_append, valN_digs, valN_digs, digs_length, Nat.mod_eq_of_lt (by simpa using hc), Nat.mod_eq_of_lt (by simpa using hs)]
/-- What Text tells. -/
def textV (c s : Nat) : Value := if mayN c s then .tuple #[.string ⟨(textOf c s).toArray⟩, .int .i64 0] else .tuple #[.string ⟨#[]⟩, .int .i64 1]
theorem mayN_spec {c s : Nat} (h : mayN c s = true) : c < 8 ∧ 1 ≤ s ∧ s ≤ 9999999999 := by
  unfold mayN at h
  simpa using h
theorem str_app (a b : List UInt8) : (⟨a.toArray⟩ : ByteArray) ++ ⟨b.toArray⟩ = ⟨(a ++ b).toArray⟩ := by
  apply ByteArray.ext
  simp
theorem utf8_digit (k : Nat) (hk : k < 7) : Utf8.encode ((48 : Int) + (k : Int)) = ⟨#[UInt8.ofNat (48 + k)]⟩ := by
  rcases (show k = 0 ∨ k = 1 ∨ k = 2 ∨ k = 3 ∨ k = 4 ∨ k = 5 ∨ k = 6 by omega) with rfl | rfl | rfl | rfl | rfl | rfl | rfl
  all_goals kernel_rfl
theorem check_any (l : List UInt8) (hall : l.all isDig = true) (hlen : l.length ≤ 19) (sb : Nat) (w : World) (hc : w.cell? ⟨sb, 0, none⟩ = some (.string ⟨l.toArray⟩)) :
    Calls Tryd.prog 17 #[.pointer (some ⟨sb, 0, none⟩)] w fun e w' => e = .returned (.int .u64 ((valN l % 7 : Nat) : Int)) ∧ Below w.heap.size w w' := by
  have hv : valOf l = .tuple #[.int .u64 (valN l), .bool true] := by rw [valOf, hall, accW_eq hall hlen]; rfl
  obtain ⟨s, hs⟩ : ∃ s : ByteArray, s = ⟨l.toArray⟩ := ⟨_, rfl⟩
  have HS := Calm.hid hs
  have HV := Calm.hid hv
  rw [← hs] at hc
  clear hv hs
  go_enter Tryd.func17, Tryd.ntmps17
  go_wp2_with fail
  rw [HS.out]
  refine (value_any l (by omega) w).mono ?_
  rintro e w2 ⟨rfl, hb2⟩
  rw [HV.out]
  have HB := Calm.hid hb2
  clear hb2
  go_wp2
  go_ret
  exact ⟨by simp, HB.out⟩

set_option maxRecDepth 100000 in
set_option maxHeartbeats 1000000 in
theorem text_any (c s : Nat) (hc : c < 256) (hs : s < 18446744073709551616) (w : World) (ht : HasT w) :
    Calls Tryd.prog 9 #[.agg #[.int .u8 c, .int .u64 s]] w fun e w' => e = .returned (textV c s) ∧ Below w.heap.size w w' := by
  have hw1 : Below w.heap.size w (w.alloc (.cells #[.int .u8 c, .int .u64 s] 24)) := (Below.refl _ _).alloc (Nat.le_refl _) _
  have hrw : Rw (w.alloc (.cells #[.int .u8 c, .int .u64 s] 24)) w.heap.size [.int .u8 c, .int .u64 s] 24 := Rw.new w _ 24
  obtain ⟨w1, hw1e⟩ : ∃ w1, w1 = w.alloc (.cells #[.int .u8 c, .int .u64 s] 24) := ⟨_, rfl⟩
  rw [← hw1e] at hw1 hrw
  have HE := Calm.hid hw1e
  have HW1 := Calm.hid hw1
  have HR := Calm.hid hrw
  have HT := Calm.hid (ht.below hw1)
  obtain ⟨m, hm⟩ : ∃ m, m = mayN c s := ⟨_, rfl⟩
  have HM := Calm.hid hm
  have hcu : (c : Int) % 18446744073709551616 = (c : Int) := by omega
  clear hw1e hw1 hrw ht
  cases m
  · have HV : Hid (textV c s = .tuple #[.string ⟨#[]⟩, .int .i64 1]) := by show textV c s = _; rw [textV, ← HM.out]; rfl
    clear hm
    go_enter Tryd.func9, Tryd.ntmps9
    go_wp2_with (go_at_call 15; refine (may_any c s _).mono ?_; rintro e w' ⟨rfl, rfl⟩; rw [← HM.out])
    go_ret2
    rw [HV.out]
    exact ⟨rfl, by rw [← HE.out]; exact HW1.out⟩
  · obtain ⟨hc8, hs1, hs2⟩ := mayN_spec hm.symm
    have HV : Hid (textV c s = .tuple #[.string ⟨(textOf c s).toArray⟩, .int .i64 0]) := by show textV c s = _; rw [textV, ← HM.out]; rfl
    clear hm
    go_enter Tryd.func9, Tryd.ntmps9
    go_wp2_with (go_at_call 15; refine (may_any c s _).mono ?_; rintro e w' ⟨rfl, rfl⟩; rw [← HM.out])
    rw [← HE.out]
    have hp1 : ∀ w', Below w1.heap.size w1 w' → Calls Tryd.prog 16 #[.int .u64 c, .int .i64 3] w' fun e w2 => e = .returned (.string ⟨(digs c 3).toArray⟩) ∧ Below w'.heap.size w' w2 := fun w' hb => padded_any c 3 (by decide) (by decide) (by omega) (by omega) w' (HT.out.below hb)
    have hp2 : ∀ w', Below w1.heap.size w1 w' → Calls Tryd.prog 16 #[.int .u64 s, .int .i64 10] w' fun e w2 => e = .returned (.string ⟨(digs s 10).toArray⟩) ∧ Below w'.heap.size w' w2 := fun w' hb => padded_any s 10 (by decide) (by decide) (by omega) hs w' (HT.out.below hb)
    obtain ⟨sa, hsa⟩ : ∃ b : ByteArray, b = ⟨(digs c 3).toArray⟩ := ⟨_, rfl⟩
    obtain ⟨sb, hsb⟩ : ∃ b : ByteArray, b = ⟨(digs s 10).toArray⟩ := ⟨_, rfl⟩
    have hsza : sa.size = 3 := by rw [hsa]; show (digs c 3).toArray.size = 3; rw [List.size_toArray, digs_length]
    have hszb : sb.size = 10 := by rw [hsb]; show (digs s 10).toArray.size = 10; rw [List.size_toArray, digs_length]
    obtain ⟨st, hst⟩ : ∃ b : ByteArray, b = sa ++ sb := ⟨_, rfl⟩
    have HST : Hid (st = ⟨(thirteen c s).toArray⟩) := by show st = _; rw [hst, hsa, hsb, str_app]; rfl
    rw [← hsa] at hp1
    rw [← hsb] at hp2
    have HP1 := Calm.hid hp1
    have HP2 := Calm.hid hp2
    have hstr := Calm.hid hst
    clear hp1 hp2 hsa hsb hst
    refine Calm.region_alloc (a1 := ?a1) 8 [.string ⟨#[]⟩] 9 _ 4 rfl rfl rfl (fun b w => ?run) (by kernel_rfl) (by kernel_rfl) (by rfl) (fun S hS => ?heads) (fun x w2 hb2 hx2 hr2 => ?tail)
    case run => go_simp
    case heads =>
      have hc0 : ∀ q : KeptA w1 [.string ⟨#[]⟩] 9 S, q.world.cell? ⟨w.heap.size, 0, none⟩ = some (.int .u8 c) := fun q => (HR.out.below q.below).cell rfl
      have hc1 : ∀ q : KeptA w1 [.string ⟨#[]⟩] 9 S, q.world.cell? ⟨w.heap.size, 1, none⟩ = some (.int .u64 s) := fun q => (HR.out.below q.below).cell rfl
      simp only [List.take_succ_cons, List.take_zero]
      iterate 4 (go_big_quiet_step ((go_at_call 16; exact KeptA.call (HP1.out _ (KeptA.below _)))))
      iterate 4 (go_big_quiet_step ((go_at_call 16; exact KeptA.call (HP2.out _ (KeptA.below _)))))
      refine wpQuiet_nil ?_
      exact rfl
    case tail =>
      rw [← hstr.out]
      simp only [List.drop_succ_cons, List.drop_zero]
      have c4 := hr2.cell (i := 0) rfl
      have f4 := hr2.free 0
      have hr3 : Rw (w2.setCell ⟨x, 0, none⟩ (.string st)) x [.string st] 9 := hr2.set 0 _
      have hb3 : Below w.heap.size w (w2.setCell ⟨x, 0, none⟩ (.string st)) := (HW1.out.trans (hb2.mono HW1.out.size)).setCell (p := ⟨x, 0, none⟩) (Nat.le_trans HW1.out.size hx2) _
      obtain ⟨w3, hw3⟩ : ∃ w3, w3 = w2.setCell ⟨x, 0, none⟩ (.string st) := ⟨_, rfl⟩
      have HW3 := Calm.hid hw3
      rw [← hw3] at hr3 hb3
      have HR3 := Calm.hid hr3
      have HB3 := Calm.hid hb3
      clear hr3 hb3 hw3 hb2 hx2 hr2
      go_frame
      go_wp2
      rw [← HW3.out]
      obtain ⟨k, hk⟩ : ∃ k, k = valN (thirteen c s) % 7 := ⟨_, rfl⟩
      have hk7 : k < 7 := by omega
      have HK := Calm.hid hk
      have hck : ∀ q : Kept w3, Calls Tryd.prog 17 #[.pointer (some ⟨x, 0, none⟩)] q.world fun e w' => e = .returned (.int .u64 (k : Int)) ∧ Below q.world.heap.size q.world w' := fun q => by
        rw [HK.out]
        exact check_any (thirteen c s) (thirteen_all c s) (by rw [thirteen_length]; decide) x q.world (by rw [← HST.out]; exact (HR3.out.below q.below).cell rfl)
      have hc4 : ∀ q : Kept w3, q.world.cell? ⟨x, 0, none⟩ = some (.string st) := fun q => (HR3.out.below q.below).cell rfl
      have HCK := Calm.hid hck
      have hst13 : st.size = 13 := by rw [HST.out]; show (thirteen c s).toArray.size = 13; rw [List.size_toArray, thirteen_length]
      obtain ⟨y, hy⟩ : ∃ y, y = UInt8.ofNat (48 + k) := ⟨_, rfl⟩
      have hen := utf8_digit k hk7
      rw [← hy] at hen
      have HYY := Calm.hid hy
      clear hck c4 f4 hk hy
      refine Calm.region_k 7 (by kernel_rfl) (by kernel_rfl) ?_
      simp only [List.take_succ_cons, List.take_zero, List.drop_succ_cons, List.drop_zero]
      repeat (go_big_quiet_step ((go_at_call 17; exact Kept.call (HCK.out _))))
      refine wpQuiet_nil ?_
      rintro _ ⟨nq, rfl⟩
      clear hen hc4
      have HB4 := Calm.hid (HB3.out.trans (nq.below.mono HB3.out.size))
      have HFIN : Hid (st ++ ⟨#[y]⟩ = ⟨(textOf c s).toArray⟩) := by
        show st ++ ⟨#[y]⟩ = _
        rw [HST.out, show (⟨#[y]⟩ : ByteArray) = ⟨[y].toArray⟩ from rfl, str_app, textOf, HYY.out, HK.out, valN_thirteen (by omega) (by omega)]
      obtain ⟨sf, hsf⟩ : ∃ sf, sf = st ++ ⟨#[y]⟩ := ⟨_, rfl⟩
      rw [← hsf]
      rw [← hsf] at HFIN
      clear hsf
      go_wp2
      go_ret2
      rw [HV.out]
      exact ⟨by rw [← HFIN.out]; rfl, HB4.out⟩

theorem digs_one (k : Nat) (hk : k < 7) : digs k 1 = [UInt8.ofNat (48 + k)] := by
  simp only [digs, Lib.dg, List.range_one, List.map_cons, List.map_nil]
  congr 2
  simp; omega
set_option maxRecDepth 100000 in
set_option maxHeartbeats 1000000 in
theorem textR_any (c s : Nat) (hc : c < 256) (hs : s < 18446744073709551616) (w : World) :
    Calls Tryd.prog 10 #[.agg #[.int .u8 c, .int .u64 s]] w fun e w' => e = .returned (textV c s) ∧ Below w.heap.size w w' := by
  have hw1 : Below w.heap.size w (w.alloc (.cells #[.int .u8 c, .int .u64 s] 24)) := (Below.refl _ _).alloc (Nat.le_refl _) _
  have hrw : Rw (w.alloc (.cells #[.int .u8 c, .int .u64 s] 24)) w.heap.size [.int .u8 c, .int .u64 s] 24 := Rw.new w _ 24
  obtain ⟨w1, hw1e⟩ : ∃ w1, w1 = w.alloc (.cells #[.int .u8 c, .int .u64 s] 24) := ⟨_, rfl⟩
  rw [← hw1e] at hw1 hrw
  have HE := Calm.hid hw1e
  have HW1 := Calm.hid hw1
  have HR := Calm.hid hrw
  obtain ⟨m, hm⟩ : ∃ m, m = mayN c s := ⟨_, rfl⟩
  have HM := Calm.hid hm
  have hcu : (c : Int) % 18446744073709551616 = (c : Int) := by omega
  clear hw1e hw1 hrw
  cases m
  · have HV : Hid (textV c s = .tuple #[.string ⟨#[]⟩, .int .i64 1]) := by show textV c s = _; rw [textV, ← HM.out]; rfl
    clear hm
    go_enter Tryd.func10, Tryd.ntmps10
    go_wp2_with fail
    rw [← HE.out]
    refine (May_any c s w1).mono ?_
    rintro e w2 ⟨rfl, hb2⟩
    rw [← HM.out]
    have HB2 := Calm.hid (HW1.out.trans (hb2.mono HW1.out.size))
    clear hb2
    go_wp2
    go_ret2
    rw [HV.out]
    exact ⟨rfl, HB2.out⟩
  · obtain ⟨hc8, hs1, hs2⟩ := mayN_spec hm.symm
    have HV : Hid (textV c s = .tuple #[.string ⟨(textOf c s).toArray⟩, .int .i64 0]) := by show textV c s = _; rw [textV, ← HM.out]; rfl
    clear hm
    go_enter Tryd.func10, Tryd.ntmps10
    go_wp2_with fail
    rw [← HE.out]
    refine (May_any c s w1).mono ?_
    rintro e w2 ⟨rfl, hb2⟩
    rw [← HM.out]
    have HB2 := Calm.hid (HW1.out.trans (hb2.mono HW1.out.size))
    have HR2 := Calm.hid (HR.out.below hb2)
    clear hb2
    go_wp2
    have hc0 : ∀ q : Kept w2, q.world.cell? ⟨w.heap.size, 0, none⟩ = some (.int .u8 c) := fun q => (HR2.out.below q.below).cell rfl
    have hc1 : ∀ q : Kept w2, q.world.cell? ⟨w.heap.size, 1, none⟩ = some (.int .u64 s) := fun q => (HR2.out.below q.below).cell rfl
    have hp1 : ∀ q : Kept w2, Calls Tryd.prog 19 #[.int .u64 c, .int .i64 3] q.world fun e w' => e = .returned (.string ⟨(digs c 3).toArray⟩) ∧ Below q.world.heap.size q.world w' := fun q => (padR_any c 3 (by decide) (by omega) q.world).mono fun e w' ⟨h1, h2⟩ => ⟨h1, by rw [h2]; exact Below.refl _ _⟩
    have hp2 : ∀ q : Kept w2, Calls Tryd.prog 19 #[.int .u64 s, .int .i64 10] q.world fun e w' => e = .returned (.string ⟨(digs s 10).toArray⟩) ∧ Below q.world.heap.size q.world w' := fun q => (padR_any s 10 (by decide) hs q.world).mono fun e w' ⟨h1, h2⟩ => ⟨h1, by rw [h2]; exact Below.refl _ _⟩
    obtain ⟨sa, hsa⟩ : ∃ b : ByteArray, b = ⟨(digs c 3).toArray⟩ := ⟨_, rfl⟩
    obtain ⟨sb, hsb⟩ : ∃ b : ByteArray, b = ⟨(digs s 10).toArray⟩ := ⟨_, rfl⟩
    have hsza : sa.size = 3 := by rw [hsa]; show (digs c 3).toArray.size = 3; rw [List.size_toArray, digs_length]
    have hszb : sb.size = 10 := by rw [hsb]; show (digs s 10).toArray.size = 10; rw [List.size_toArray, digs_length]
    obtain ⟨st, hst⟩ : ∃ b : ByteArray, b = sa ++ sb := ⟨_, rfl⟩
    have HST : Hid (st = ⟨(thirteen c s).toArray⟩) := by show st = _; rw [hst, hsa, hsb, str_app]; rfl
    rw [← hsa] at hp1
    rw [← hsb] at hp2
    have HP1 := Calm.hid hp1
    have HP2 := Calm.hid hp2
    have hstr := Calm.hid hst
    clear hp1 hp2 hsa hsb hst
    refine Calm.region_k 8 (by kernel_rfl) (by kernel_rfl) ?_
    simp only [List.take_succ_cons, List.take_zero, List.drop_succ_cons, List.drop_zero]
    iterate 4 (go_big_quiet_step ((go_at_call 19; exact Kept.call (HP1.out _))))
    iterate 4 (go_big_quiet_step ((go_at_call 19; exact Kept.call (HP2.out _))))
    refine wpQuiet_nil ?_
    rintro _ ⟨nq, rfl⟩
    rw [← hstr.out]
    have HB3 := Calm.hid (HB2.out.trans (nq.below.mono HB2.out.size))
    have hst13 : st.size = 13 := by rw [HST.out]; show (thirteen c s).toArray.size = 13; rw [List.size_toArray, thirteen_length]
    clear hc0 hc1
    obtain ⟨k, hk⟩ : ∃ k, k = leftN (thirteen c s) := ⟨_, rfl⟩
    have hk7 : k < 7 := by rw [hk]; exact leftN_lt _
    have HK := Calm.hid hk
    have hku : (k : Int) % 18446744073709551616 = (k : Int) := by omega
    clear hk
    go_wp2_with fail
    rw [HST.out]
    refine (left_any (thirteen c s) (by rw [thirteen_length]; decide) _).mono ?_
    rintro e w4 ⟨rfl, rfl⟩
    rw [← HK.out, ← HST.out]
    go_wp2_with fail
    refine (padR_any k 1 (by decide) (by omega) _).mono ?_
    rintro e w5 ⟨rfl, rfl⟩
    have HFIN : Hid (st ++ ⟨(digs k 1).toArray⟩ = ⟨(textOf c s).toArray⟩) := by
      show st ++ ⟨(digs k 1).toArray⟩ = _
      rw [HST.out, str_app, textOf, digs_one k hk7, HK.out, leftN_eq, valN_thirteen (by omega) (by omega)]
    obtain ⟨sd, hsd⟩ : ∃ sd : ByteArray, sd = ⟨(digs k 1).toArray⟩ := ⟨_, rfl⟩
    have hsd1 : sd.size = 1 := by rw [hsd]; show (digs k 1).toArray.size = 1; rw [List.size_toArray, digs_length]
    rw [← hsd]
    rw [← hsd] at HFIN
    clear hsd
    go_wp2
    go_ret2
    rw [HV.out]
    exact ⟨by rw [← HFIN.out]; rfl, HB3.out⟩
end Go.Proofs.YtmpcknjmdealgaaDoor
