/-
  Texts and tickets are each other's; the walk of NumberBack.
-/
import Derived.Test.YtmpcknjmdealgaaDoorOpen
namespace Go.Proofs.YtmpcknjmdealgaaDoor
open Go.RowKit Go.Sha Go.Calm
theorem textOf_length (c s : Nat) : (textOf c s).length = 14 := by rw [textOf, List.length_append, thirteen_length]; rfl
theorem last_dig (k : Nat) (hk : k < 10) : isDig (UInt8.ofNat (48 + k)) = true ∧ dn (UInt8.ofNat (48 + k)) = k := by
  have : (UInt8.ofNat (48 + k)).toNat = 48 + k := by rw [UInt8.toNat_ofNat']; omega
  have h : isDig (UInt8.ofNat (48 + k)) = true := by rw [isDig_iff, this]; omega
  exact ⟨h, by rw [(dn_dig h).1, this]; omega⟩
theorem textOf_all (c s : Nat) : (textOf c s).all isDig = true := by
  rw [textOf, List.all_append, thirteen_all, Bool.true_and, List.all_cons, List.all_nil, Bool.and_true]
  exact (last_dig _ (by omega)).1
theorem valN_textOf {c s : Nat} (hc : c < 1000) (hs : s < 10000000000) : valN (textOf c s) = 10 * (c * 10000000000 + s) + (c * 10000000000 + s) % 7 := by
  rw [textOf, valN_snoc, valN_thirteen hc hs, (last_dig _ (by omega)).2]
theorem parse_text {c s : Nat} (h : mayN c s = true) : parseV (textOf c s) = .tuple #[ticketV c s, .int .i64 0] := by
  obtain ⟨h1, h2, h3⟩ := mayN_spec h
  have hv := valN_textOf (c := c) (s := s) (by omega) (by omega)
  obtain ⟨u, hu⟩ : ∃ u, u = c * 10000000000 + s := ⟨_, rfl⟩
  obtain ⟨k, hk⟩ : ∃ k, k = u % 7 := ⟨_, rfl⟩
  rw [← hu, ← hk] at hv
  have hk7 : k < 7 := by omega
  have ha : valN (textOf c s) / 10 = u := by omega
  have hb : valN (textOf c s) % 10 = k := by omega
  have e1 : valN (textOf c s) / 100000000000 = c := by
    rw [show 100000000000 = 10 * 10000000000 from rfl, ← Nat.div_div_eq_div_mul, ha]; omega
  have e2 : valN (textOf c s) / 10 % 10000000000 = s := by rw [ha]; omega
  have e0 : parseE (textOf c s) = 0 := by
    rw [parseE, if_neg (by rw [textOf_length]; simp), if_neg (by rw [textOf_all]; simp), if_neg (by rw [ha, hb, hk]; simp), e1, e2, if_neg (by rw [h]; simp)]
  rw [parseV, parseT, e0, if_pos rfl, e1, e2]
  rfl
theorem parseE_zero {l : List UInt8} (h : parseE l = 0) : l.length = 14 ∧ l.all isDig = true ∧ valN l / 10 % 7 = valN l % 10 ∧ mayN (valN l / 100000000000) (valN l / 10 % 10000000000) = true := by
  unfold parseE at h
  split at h
  · cases h
  · split at h
    · cases h
    · split at h
      · cases h
      · split at h
        · cases h
        · rename_i h1 h2 h3 h4
          exact ⟨by omega, by simpa using h2, by omega, by simpa using h4⟩
theorem text_parse {l : List UInt8} (h : parseE l = 0) : textOf (valN l / 100000000000) (valN l / 10 % 10000000000) = l := by
  obtain ⟨h14, hall, hchk, _⟩ := parseE_zero h
  obtain ⟨v1, v2⟩ := val14 h14 hall
  obtain ⟨v3, v4, v5⟩ := val13 h14 hall
  have ha : (l.take 3).all isDig = true := List.all_eq_true.2 fun x hx => List.all_eq_true.1 hall x (List.mem_of_mem_take hx)
  have hb : ((l.drop 3).take 10).all isDig = true := List.all_eq_true.2 fun x hx => List.all_eq_true.1 hall x (List.mem_of_mem_drop (List.mem_of_mem_take hx))
  have hla : (l.take 3).length = 3 := by simp; omega
  have hlb : ((l.drop 3).take 10).length = 10 := by simp; omega
  have d1 := digs_valN _ ha
  have d2 := digs_valN _ hb
  rw [hla] at d1
  rw [hlb] at d2
  have hx : isDig (l.getD 13 0) = true := List.all_eq_true.1 hall _ (by simp [show 13 < l.length by omega])
  have hxd := dn_dig hx
  have hxi := (isDig_iff _).1 hx
  have e : valN l / 100000000000 * 10000000000 + valN l / 10 % 10000000000 = valN l / 10 := by omega
  rw [textOf, e, hchk, v2, v3, v4, thirteen, d1, d2]
  conv => rhs; rw [split14 h14, split13 h14]
  congr 2
  apply UInt8.toNat_inj.1
  rw [UInt8.toNat_ofNat']
  omega

theorem textV_yes {c s : Nat} (h : mayN c s = true) : textV c s = .tuple #[.string ⟨(textOf c s).toArray⟩, .int .i64 0] := by rw [textV, if_pos h]
theorem textV_no {c s : Nat} (h : mayN c s = false) : textV c s = .tuple #[.string ⟨#[]⟩, .int .i64 1] := by rw [textV, if_neg (by rw [h]; simp)]
set_option maxRecDepth 100000 in
set_option maxHeartbeats 1000000 in
theorem back_walk (c s : Nat) (l : List UInt8) (w : World) (hc : c < 256) (hs : s < 18446744073709551616) (ht : HasT w) :
    Calls Tryd.prog 5 #[.agg #[.int .u8 c, .int .u64 s], .string ⟨l.toArray⟩] w fun e w' => e = .returned (.bool true) ∧ Below w.heap.size w w' := by
  have hw1 : Below w.heap.size w (w.alloc (.cells #[.int .u8 c, .int .u64 s] 24)) := (Below.refl _ _).alloc (Nat.le_refl _) _
  have hrw : Rw (w.alloc (.cells #[.int .u8 c, .int .u64 s] 24)) w.heap.size [.int .u8 c, .int .u64 s] 24 := Rw.new w _ 24
  obtain ⟨w1, hw1e⟩ : ∃ w1, w1 = w.alloc (.cells #[.int .u8 c, .int .u64 s] 24) := ⟨_, rfl⟩
  rw [← hw1e] at hw1 hrw
  obtain ⟨b, hb⟩ : ∃ b : ByteArray, b = ⟨l.toArray⟩ := ⟨_, rfl⟩
  have hsz : b.size = l.length := by rw [hb]; simp [ByteArray.size]
  rw [← hb]
  have HE := Calm.hid hw1e
  have HW1 := Calm.hid hw1
  have HR := Calm.hid hrw
  have HT := Calm.hid (ht.below hw1)
  have HB := Calm.hid hb
  have hg : Tryd.prog.eqGuardType Tryd.prog.depth 24 = false := by kernel_rfl
  clear hw1e hw1 hrw ht hb
  by_cases hl : 2000 < l.length
  · have hd : decide (2000 < (l.length : Int)) = true := by simp; omega
    go_enter Tryd.func5, Tryd.ntmps5
    go_wp2
    go_ret
    exact ⟨rfl, by rw [← HE.out]; exact HW1.out⟩
  have hd : decide (2000 < (l.length : Int)) = false := by simp; omega
  obtain ⟨m, hm⟩ : ∃ m, m = mayN c s := ⟨_, rfl⟩
  have HM := Calm.hid hm
  clear hm
  -- the second half: the text s, read and told
  cases m
  · have HV := Calm.hid (textV_no HM.out.symm)
    go_enter Tryd.func5, Tryd.ntmps5
    go_wp2_with fail
    rw [← HE.out]
    refine (text_any c s hc hs w1 HT.out).mono ?_
    rintro e w2 ⟨rfl, hb2⟩
    rw [HV.out]
    have HB2 := Calm.hid (HW1.out.trans (hb2.mono HW1.out.size))
    have HT2 := Calm.hid (HT.out.below hb2)
    have c0 := (HR.out.below hb2).cell (i := 0) rfl
    have c1 := (HR.out.below hb2).cell (i := 1) rfl
    clear hb2
    go_wp2_with fail
    refine (May_any c s w2).mono ?_
    rintro e w3 ⟨rfl, hb3⟩
    rw [← HM.out]
    have HB3 := Calm.hid (HB2.out.trans (hb3.mono HB2.out.size))
    have HT3 := Calm.hid (HT2.out.below hb3)
    clear hb3 c0 c1
    go_wp2_with fail
    rw [HB.out]
    refine (parse_any l (by omega) w3).mono ?_
    rintro e wp ⟨rfl, hbp⟩
    rw [← HB.out]
    have HBP := Calm.hid (HB3.out.trans (hbp.mono HB3.out.size))
    have HTP := Calm.hid (HT3.out.below hbp)
    clear hbp
    obtain ⟨z, hz⟩ : ∃ z, z = parseE l := ⟨_, rfl⟩
    by_cases hz0 : z = 0
    · obtain ⟨c', hc'⟩ : ∃ x, x = valN l / 100000000000 := ⟨_, rfl⟩
      obtain ⟨s', hs'⟩ : ∃ x, x = valN l / 10 % 10000000000 := ⟨_, rfl⟩
      have hE : parseE l = 0 := by rw [← hz, hz0]
      have hm' := (parseE_zero hE).2.2.2
      rw [← hc', ← hs'] at hm'
      obtain ⟨hc8, hs1, hs2⟩ := mayN_spec hm'
      have HPV : Hid (parseV l = .tuple #[.agg #[.int .u8 c', .int .u64 s'], .int .i64 0]) := by
        show parseV l = _
        rw [parseV, parseT, hE, if_pos rfl, ← hc', ← hs']; rfl
      have HTX : Hid (textV c' s' = .tuple #[.string ⟨l.toArray⟩, .int .i64 0]) := by
        show textV c' s' = _
        rw [textV_yes hm', hc', hs', text_parse hE]
      have HC8 := Calm.hid (show c' < 256 by omega)
      have HS2 := Calm.hid (show s' < 18446744073709551616 by omega)
      rw [HPV.out]
      clear hz hc' hs' hE hm' hz0
      go_wp2_with fail
      have HB5 : Hid (Below w.heap.size w (wp.alloc (.cells #[.int .u8 c', .int .u64 s'] 24))) := HBP.out.alloc HBP.out.size _
      have HT5 : Hid (HasT (wp.alloc (.cells #[.int .u8 c', .int .u64 s'] 24))) := HTP.out.below ((Below.refl _ _).alloc (Nat.le_refl _) _)
      refine (text_any c' s' HC8.out HS2.out _ HT5.out).mono ?_
      rintro e wt ⟨rfl, hbt⟩
      rw [HTX.out, ← HB.out]
      have HB6 := Calm.hid (HB5.out.trans (hbt.mono HB5.out.size))
      have HT6 := Calm.hid (HT5.out.below hbt)
      clear hbt
      go_wp2_with fail
      refine (tells_any _ HT6.out).mono ?_
      rintro e wu ⟨rfl, hbu⟩
      have HB7 := Calm.hid (HB6.out.trans (hbu.mono HB6.out.size))
      clear hbu
      go_wp2
      go_ret
      exact ⟨rfl, HB7.out⟩
    · have HPV : Hid (parseV l = .tuple #[.agg #[.int .u8 0, .int .u64 0], .int .i64 (z : Int)]) := by
        show parseV l = _
        rw [parseV, parseT, ← hz, if_neg hz0]; rfl
      have hzi : ((z : Int) != 0) = true := by simp; omega
      have he := eq24_same 0 0
      rw [HPV.out]
      clear hz
      go_wp2_with fail
      have HB5 : Hid (Below w.heap.size w (wp.alloc (.cells #[.int .u8 0, .int .u64 0] 24))) := HBP.out.alloc HBP.out.size _
      have HT5 : Hid (HasT (wp.alloc (.cells #[.int .u8 0, .int .u64 0] 24))) := HTP.out.below ((Below.refl _ _).alloc (Nat.le_refl _) _)
      refine (tells_any _ HT5.out).mono ?_
      rintro e wu ⟨rfl, hbu⟩
      have HB7 := Calm.hid (HB5.out.trans (hbu.mono HB5.out.size))
      clear hbu
      go_wp2
      go_ret
      exact ⟨rfl, HB7.out⟩
  · obtain ⟨hc8, hs1, hs2⟩ := mayN_spec HM.out.symm
    have HV := Calm.hid (textV_yes HM.out.symm)
    have HPT := Calm.hid (parse_text HM.out.symm)
    obtain ⟨sa, hsa⟩ : ∃ sa : ByteArray, sa = ⟨(textOf c s).toArray⟩ := ⟨_, rfl⟩
    have hsa14 : sa.size = 14 := by rw [hsa]; show (textOf c s).toArray.size = 14; rw [List.size_toArray, textOf_length]
    have HSA := Calm.hid hsa
    clear hsa
    go_enter Tryd.func5, Tryd.ntmps5
    go_wp2_with fail
    rw [← HE.out]
    refine (text_any c s hc hs w1 HT.out).mono ?_
    rintro e w2 ⟨rfl, hb2⟩
    rw [HV.out, ← HSA.out]
    have HB2 := Calm.hid (HW1.out.trans (hb2.mono HW1.out.size))
    have HT2 := Calm.hid (HT.out.below hb2)
    have HR2 := Calm.hid (HR.out.below hb2)
    have c0 := HR2.out.cell (i := 0) rfl
    have c1 := HR2.out.cell (i := 1) rfl
    clear hb2
    go_wp2_with fail
    refine (May_any c s w2).mono ?_
    rintro e w3 ⟨rfl, hb3⟩
    rw [← HM.out]
    have HB3 := Calm.hid (HB2.out.trans (hb3.mono HB2.out.size))
    have HT3 := Calm.hid (HT2.out.below hb3)
    have HR3 := Calm.hid (HR2.out.below hb3)
    clear hb3 c0 c1
    go_wp2_with fail
    rw [HSA.out]
    refine (parse_any (textOf c s) (by rw [textOf_length]; decide) w3).mono ?_
    rintro e w4 ⟨rfl, hb4⟩
    rw [HPT.out, ← HSA.out]
    unfold ticketV
    have he := eq24_same c s
    have HB4 := Calm.hid ((HB3.out.trans (hb4.mono HB3.out.size)).alloc (Nat.le_trans HB3.out.size hb4.size) (.cells #[.int .u8 c, .int .u64 s] 24))
    have HT4 := Calm.hid ((HT3.out.below hb4).below ((Below.refl _ _).alloc (Nat.le_refl _) (.cells #[.int .u8 c, .int .u64 s] 24)))
    have hr4 : Rw (w4.alloc (.cells #[.int .u8 c, .int .u64 s] 24)) w.heap.size [.int .u8 c, .int .u64 s] 24 := (HR3.out.below hb4).alloc _
    have c0 := hr4.cell (i := 0) rfl
    have c1 := hr4.cell (i := 1) rfl
    clear hb4 hr4
    go_wp2_with fail
    clear c0 c1 he
    obtain ⟨w5, hw5⟩ : ∃ w5, w5 = w4.alloc (.cells #[.int .u8 c, .int .u64 s] 24) := ⟨_, rfl⟩
    rw [← hw5] at HB4 HT4 ⊢
    clear hw5
    rw [HB.out]
    refine (parse_any l (by omega) w5).mono ?_
    rintro e wp ⟨rfl, hbp⟩
    rw [← HB.out]
    have HBP := Calm.hid (HB4.out.trans (hbp.mono HB4.out.size))
    have HTP := Calm.hid (HT4.out.below hbp)
    clear hbp
    obtain ⟨z, hz⟩ : ∃ z, z = parseE l := ⟨_, rfl⟩
    by_cases hz0 : z = 0
    · obtain ⟨c', hc'⟩ : ∃ x, x = valN l / 100000000000 := ⟨_, rfl⟩
      obtain ⟨s', hs'⟩ : ∃ x, x = valN l / 10 % 10000000000 := ⟨_, rfl⟩
      have hE : parseE l = 0 := by rw [← hz, hz0]
      have hm' := (parseE_zero hE).2.2.2
      rw [← hc', ← hs'] at hm'
      obtain ⟨hc8, hs1, hs2⟩ := mayN_spec hm'
      have HPV : Hid (parseV l = .tuple #[.agg #[.int .u8 c', .int .u64 s'], .int .i64 0]) := by
        show parseV l = _
        rw [parseV, parseT, hE, if_pos rfl, ← hc', ← hs']; rfl
      have HTX : Hid (textV c' s' = .tuple #[.string ⟨l.toArray⟩, .int .i64 0]) := by
        show textV c' s' = _
        rw [textV_yes hm', hc', hs', text_parse hE]
      have HC8 := Calm.hid (show c' < 256 by omega)
      have HS2 := Calm.hid (show s' < 18446744073709551616 by omega)
      rw [HPV.out]
      clear hz hc' hs' hE hm' hz0
      go_wp2_with fail
      have HB5 : Hid (Below w.heap.size w (wp.alloc (.cells #[.int .u8 c', .int .u64 s'] 24))) := HBP.out.alloc HBP.out.size _
      have HT5 : Hid (HasT (wp.alloc (.cells #[.int .u8 c', .int .u64 s'] 24))) := HTP.out.below ((Below.refl _ _).alloc (Nat.le_refl _) _)
      refine (text_any c' s' HC8.out HS2.out _ HT5.out).mono ?_
      rintro e wt ⟨rfl, hbt⟩
      rw [HTX.out, ← HB.out]
      have HB6 := Calm.hid (HB5.out.trans (hbt.mono HB5.out.size))
      have HT6 := Calm.hid (HT5.out.below hbt)
      clear hbt
      go_wp2_with fail
      refine (tells_any _ HT6.out).mono ?_
      rintro e wu ⟨rfl, hbu⟩
      have HB7 := Calm.hid (HB6.out.trans (hbu.mono HB6.out.size))
      clear hbu
      go_wp2
      go_ret
      exact ⟨rfl, HB7.out⟩
    · have HPV : Hid (parseV l = .tuple #[.agg #[.int .u8 0, .int .u64 0], .int .i64 (z : Int)]) := by
        show parseV l = _
        rw [parseV, parseT, ← hz, if_neg hz0]; rfl
      have hzi : ((z : Int) != 0) = true := by simp; omega
      have he := eq24_same 0 0
      rw [HPV.out]
      clear hz
      go_wp2_with fail
      have HB5 : Hid (Below w.heap.size w (wp.alloc (.cells #[.int .u8 0, .int .u64 0] 24))) := HBP.out.alloc HBP.out.size _
      have HT5 : Hid (HasT (wp.alloc (.cells #[.int .u8 0, .int .u64 0] 24))) := HTP.out.below ((Below.refl _ _).alloc (Nat.le_refl _) _)
      refine (tells_any _ HT5.out).mono ?_
      rintro e wu ⟨rfl, hbu⟩
      have HB7 := Calm.hid (HB5.out.trans (hbu.mono HB5.out.size))
      clear hbu
      go_wp2
      go_ret
      exact ⟨rfl, HB7.out⟩
/-- The same walk in the shape in which the card's text takes it. -/
theorem back_card (c s : Nat) (b : ByteArray) (w : World) (hc : c < 256) (hs : s < 18446744073709551616) (_ : b.size ≤ maxLen) (ht : HasT w) :
    Calls Tryd.prog 5 #[.agg #[.int .u8 c, .int .u64 s], .string b] w fun e w' => e = .returned (.bool true) ∧ Below w.heap.size w w' := by
  have e : b = ⟨b.data.toList.toArray⟩ := by cases b; simp
  have h := back_walk c s b.data.toList w hc hs ht
  rw [← e] at h
  exact h
end Go.Proofs.YtmpcknjmdealgaaDoor
