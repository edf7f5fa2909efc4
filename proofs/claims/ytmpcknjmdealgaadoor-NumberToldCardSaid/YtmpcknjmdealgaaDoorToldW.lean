/-
  A digit that is another one, and neighbours that changed places; the walk of NumberTold.
-/
import Derived.Test.YtmpcknjmdealgaaDoorBackW
import Derived.Lib.ConvBytes
import Derived.BigRegion
namespace Go.Proofs.YtmpcknjmdealgaaDoor
open Go.RowKit Go.Sha Go.Calm
/-- Block g is the row of a conversion to bytes: these bytes, and noughts behind. -/
def Br (w : World) (g : Nat) (l : List UInt8) : Prop := ∃ tl : List Value, w.heap[g]? = some (.cells (l.map bv ++ tl).toArray 5 (l.length + tl.length, l.length + tl.length + 1))
section
variable {w w' : World} {g : Nat} {l : List UInt8}
theorem Br.lt (h : Br w g l) : g < w.heap.size := by obtain ⟨tl, h⟩ := h; exact (Array.getElem?_eq_some_iff.1 h).1
theorem Br.cell (h : Br w g l) {i : Nat} (hi : i < l.length) : w.cell? ⟨g, i, none⟩ = some (bv (l.getD i 0)) := by
  obtain ⟨tl, h⟩ := h
  rw [cell_of_row w g i _ _ _ h]
  simp [List.getElem?_append, hi]
theorem Br.free (h : Br w g l) {i : Nat} (hi : i < l.length) : w.frozen? ⟨g, i, none⟩ = false := by
  obtain ⟨tl, h⟩ := h
  simp [World.frozen?, h]
  omega
theorem Br.set (h : Br w g l) {i : Nat} (hi : i < l.length) (x : UInt8) : Br (w.setCell ⟨g, i, none⟩ (bv x)) g (l.set i x) := by
  obtain ⟨tl, h⟩ := h
  refine ⟨tl, ?_⟩
  rw [setCell_eq_setRow w g i _ _ _ _ h]
  have := setRow_heap w g _ ((l.map bv ++ tl).toArray.setIfInBounds i (bv x)) _ _ h
  rw [this]
  simp [List.map_set, hi]
theorem Br.below (h : Br w g l) (k : Below w.heap.size w w') : Br w' g l := by
  have := h.lt
  obtain ⟨tl, h⟩ := h
  exact ⟨tl, (k.block g this).trans h⟩
theorem Br.str (h : Br w g l) (c : Nat) : (convert 34 9 (.slice (some ⟨g, 0, none⟩) l.length c)).run Tryd.prog w = .ok (.string ⟨l.toArray⟩) w := by
  refine run_convert_bytes_back w 34 9 5 ⟨g, 0, none⟩ c l Tryd.underlying34 Tryd.underlying5 Tryd.underlying9 fun j hj => ?_
  rw [add_plain, Nat.zero_add, h.cell hj]
  simp [bv, B8, hj]
end
theorem conv_bytes (w : World) (l : List UInt8) : ∃ wA c, (convert 9 34 (.string ⟨l.toArray⟩)).run Tryd.prog w = .ok (.slice (some ⟨w.heap.size, 0, none⟩) l.length c) wA ∧ Br wA w.heap.size l ∧ Below w.heap.size w wA := by
  refine ⟨_, _, Lib.run_convert_string_bytes w 9 34 5 ⟨l.toArray⟩ Tryd.underlying9 Tryd.underlying34 Tryd.underlying5, ?_, ?_⟩
  · refine ⟨List.replicate (grownCap w l.length 0 5 - l.length) (.int .u8 0), ?_⟩
    rw [Lib.bytesWorld_at_new]
    have e : Lib.bytesCells w 5 ⟨l.toArray⟩ = (l.map bv ++ List.replicate (grownCap w l.length 0 5 - l.length) (Value.int .u8 0)).toArray := by
      simp [Lib.bytesCells, ByteArray.size]
      intro a _; rfl
    rw [e]
    simp
  · refine ⟨rfl, rfl, rfl, ?_, fun k hk => Lib.bytesWorld_at_old w 5 _ k hk⟩
    rw [Lib.bytesWorld_size]; omega

theorem valN_set : ∀ (l : List UInt8) (k : Nat) (x : UInt8), k < l.length → valN (l.set k x) + dn (l.getD k 0) * 10 ^ (l.length - 1 - k) = valN l + dn x * 10 ^ (l.length - 1 - k)
  | c :: l, 0, x, _ => by
    have e : ∀ c, valN (c :: l) = dn c * 10 ^ l.length + valN l := fun c => by
      show valF (10 * 0 + dn c) l = _
      rw [valF_eq]; simp
    simp only [List.set_cons_zero, e, List.getD_cons_zero, List.length_cons, Nat.add_sub_cancel, Nat.sub_zero]
    omega
  | c :: l, k + 1, x, h => by
    have e : ∀ c (l : List UInt8), valN (c :: l) = dn c * 10 ^ l.length + valN l := fun c l => by
      show valF (10 * 0 + dn c) l = _
      rw [valF_eq]; simp
    have := valN_set l k x (by simpa using h)
    simp only [List.set_cons_succ, e, List.getD_cons_succ, List.length_cons, List.length_set]
    rw [show l.length + 1 - 1 - (k + 1) = l.length - 1 - k by omega]
    omega
/-- A text of digits reads as the wrong check just if the check digit is wrong. -/
theorem check_iff {l : List UInt8} (h14 : l.length = 14) (hall : l.all isDig = true) : parseE l = 70 ↔ valN l / 10 % 7 ≠ valN l % 10 := by
  unfold parseE
  rw [if_neg (by omega), if_neg (by rw [hall]; simp)]
  by_cases h : valN l / 10 % 7 = valN l % 10
  · rw [if_neg (by omega)]
    split <;> simp [h]
  · rw [if_pos (by omega)]; simp [h]
theorem all_set {l : List UInt8} (hall : l.all isDig = true) (k : Nat) {x : UInt8} (hx : isDig x = true) : (l.set k x).all isDig = true := by
  rw [List.all_eq_true] at *
  intro y hy
  rcases List.mem_or_eq_of_mem_set hy with h | rfl
  · exact hall y h
  · exact hx
theorem dig_get {l : List UInt8} (hall : l.all isDig = true) {k : Nat} (hk : k < l.length) : isDig (l.getD k 0) = true := by
  refine List.all_eq_true.1 hall _ ?_
  simp [List.getD_eq_getElem?_getD, hk]
/-- The number without its check digit moves by the difference, times a power of ten. -/
theorem shift {l : List UInt8} (h14 : l.length = 14) (hall : l.all isDig = true) {k : Nat} (hk : k < 13) {x : UInt8} (hx : isDig x = true) :
    ((valN (l.set k x) / 10 : Nat) : Int) = (valN l / 10 : Nat) + ((x.toNat : Int) - (l.getD k 0).toNat) * (10 ^ (12 - k) : Nat) ∧ valN (l.set k x) % 10 = valN l % 10 := by
  have h1 := valN_set l k x (by omega)
  have hy := dig_get hall (k := k) (by omega)
  have e1 := (dn_dig hx).1
  have e2 := (dn_dig hy).1
  have i1 := (isDig_iff _).1 hx
  have i2 := (isDig_iff _).1 hy
  rw [h14, e1, e2, show 14 - 1 - k = (12 - k) + 1 by omega, Nat.pow_succ] at h1
  generalize valN (l.set k x) = V' at *
  generalize valN l = V at *
  generalize x.toNat = a at *
  generalize (l.getD k 0).toNat = b at *
  generalize 10 ^ (12 - k) = P at *
  obtain ⟨a, rfl⟩ : ∃ n, a = n + 48 := ⟨a - 48, by omega⟩
  obtain ⟨b, rfl⟩ : ∃ n, b = n + 48 := ⟨b - 48, by omega⟩
  rw [Nat.add_sub_cancel, Nat.add_sub_cancel, ← Nat.mul_assoc, ← Nat.mul_assoc] at h1
  have e3 : (((a + 48 : Nat) : Int) - ((b + 48 : Nat) : Int)) * (P : Int) = ((a * P : Nat) : Int) - ((b * P : Nat) : Int) := by
    rw [Int.natCast_mul, Int.natCast_mul, ← Int.sub_mul]
    congr 1
    omega
  rw [e3]
  generalize a * P = p at *
  generalize b * P = q at *
  omega
theorem mod7 {u u' t Q : Int} (h : u' = u + t * Q) (hQ : Q % 7 ≠ 0) : u' % 7 = u % 7 ↔ t % 7 = 0 := by
  have e : (t * Q) % 7 = ((t % 7) * (Q % 7)) % 7 := Int.mul_emod _ _ _
  subst h
  generalize t * Q = p at *
  have h1 : (u + p) % 7 = u % 7 ↔ p % 7 = 0 := by omega
  rw [h1, e]
  have a1 : 0 ≤ t % 7 ∧ t % 7 < 7 := by omega
  have a2 : 0 ≤ Q % 7 ∧ Q % 7 < 7 := by omega
  generalize t % 7 = r at *
  generalize Q % 7 = z at *
  have hr : r = 0 ∨ r = 1 ∨ r = 2 ∨ r = 3 ∨ r = 4 ∨ r = 5 ∨ r = 6 := by omega
  rcases hr with rfl | rfl | rfl | rfl | rfl | rfl | rfl <;> omega
theorem pow7 {k : Nat} (hk : k < 13) : (((10 ^ (12 - k) : Nat) : Int)) % 7 ≠ 0 := by
  have : ∀ k, k < 13 → (10 ^ (12 - k)) % 7 ≠ 0 := by decide +kernel
  have := this k hk
  omega
theorem pow7' {k : Nat} (hk : k < 12) : (((10 ^ (12 - k) : Nat) : Int) - ((10 ^ (12 - (k + 1)) : Nat) : Int)) % 7 ≠ 0 := by
  have : ∀ k, k < 12 → (10 ^ (12 - k) - 10 ^ (12 - (k + 1))) % 7 ≠ 0 ∧ 10 ^ (12 - (k + 1)) ≤ 10 ^ (12 - k) := by decide +kernel
  have := this k hk
  omega
/-- One digit that is another one. -/
theorem told_in {l : List UInt8} (hp : parseE l = 0) {k : Nat} (hk : k < 13) {x : UInt8} (hx : isDig x = true) :
    parseE (l.set k x) = 70 ↔ ((x.toNat : Int) - (l.getD k 0).toNat) % 7 ≠ 0 := by
  obtain ⟨h14, hall, hchk, _⟩ := parseE_zero hp
  rw [check_iff (by simpa using h14) (all_set hall k hx)]
  obtain ⟨h1, h2⟩ := shift h14 hall hk hx
  have h3 := mod7 h1 (pow7 hk)
  rw [h2, ← hchk, Ne, Ne, ← h3]
  omega
theorem last_of {l : List UInt8} (h14 : l.length = 14) : valN l % 10 = dn (l.getD 13 0) % 10 := by
  have h1 := valN_snoc (l.take 13) (l.getD 13 0)
  have e : l.take 13 ++ [l.getD 13 0] = l := by
    conv => rhs; rw [← List.take_append_drop 13 l]
    rw [List.drop_eq_getElem_cons (by omega), List.drop_eq_nil_of_le (by omega)]
    simp [List.getD_eq_getElem?_getD, h14]
  rw [e] at h1
  omega
theorem told_last {l : List UInt8} (hp : parseE l = 0) {x : UInt8} (hx : isDig x = true) (hne : ((x.toNat : Int) - (l.getD 13 0).toNat) % 7 ≠ 0) : parseE (l.set 13 x) = 70 := by
  obtain ⟨h14, hall, hchk, _⟩ := parseE_zero hp
  rw [check_iff (by simpa using h14) (all_set hall 13 hx)]
  have h1 := valN_set l 13 x (by omega)
  have h2 := last_of h14
  have h3 := last_of (l := l.set 13 x) (by simpa using h14)
  have e0 : (l.set 13 x).getD 13 0 = x := by simp [List.getD_eq_getElem?_getD, h14]
  have hy := dig_get hall (k := 13) (by omega)
  have e1 := dn_dig hx
  have e2 := dn_dig hy
  have i1 := (isDig_iff _).1 hx
  have i2 := (isDig_iff _).1 hy
  rw [e0] at h3
  rw [h14] at h1
  simp only [Nat.reduceSub, Nat.pow_zero, Nat.mul_one] at h1
  omega
theorem parseV_agg (l : List UInt8) : ∃ A B : Nat, parseV l = .tuple #[.agg #[.int .u8 A, .int .u64 B], .int .i64 (parseE l)] := by
  unfold parseV parseT ticketV
  split
  · exact ⟨_, _, rfl⟩
  · exact ⟨0, 0, rfl⟩
theorem tmod7 {F : Int} (h1 : -9 ≤ F) (h2 : F ≤ 9) : F.tmod 7 = 0 ↔ F % 7 = 0 := by
  obtain ⟨n, hn, rfl⟩ : ∃ n : Nat, n < 19 ∧ F = (n : Int) - 9 := ⟨(F + 9).toNat, by omega, by omega⟩
  have : ∀ n : Nat, n < 19 → (((n : Int) - 9).tmod 7 = 0 ↔ ((n : Int) - 9) % 7 = 0) := by decide
  exact this n hn
theorem parseE_text {c s : Nat} (h : mayN c s = true) : parseE (textOf c s) = 0 := by
  have h1 := parse_text h
  unfold parseV at h1
  by_cases h0 : parseE (textOf c s) = 0
  · exact h0
  · injection h1 with h1
    have h2 := congrArg (fun a : Array Value => a[1]?) h1
    simp at h2
    exact absurd h2 h0
theorem cross (x y P R : Int) : (x - y) * P + (y - x) * R = (x - y) * (P - R) := by
  rw [Int.mul_sub, show y - x = -(x - y) by omega, Int.neg_mul]; omega
/-- Neighbours that changed places. -/
theorem told_two {l : List UInt8} (hp : parseE l = 0) {k : Nat} (hk : k < 12) :
    parseE ((l.set k (l.getD (k + 1) 0)).set (k + 1) (l.getD k 0)) = 70 ↔ (((l.getD k 0).toNat : Int) - (l.getD (k + 1) 0).toNat) % 7 ≠ 0 := by
  obtain ⟨h14, hall, hchk, _⟩ := parseE_zero hp
  have hy := dig_get hall (k := k) (by omega)
  have hx := dig_get hall (k := k + 1) (by omega)
  have hall' := all_set hall k hx
  rw [check_iff (by simpa using h14) (all_set hall' (k + 1) hy)]
  have e0 : (l.set k (l.getD (k + 1) 0)).getD (k + 1) 0 = l.getD (k + 1) 0 := by simp [List.getD_eq_getElem?_getD]
  obtain ⟨h1, h2⟩ := shift h14 hall (k := k) (by omega) hx
  obtain ⟨h3, h4⟩ := shift (l := l.set k (l.getD (k + 1) 0)) (by simpa using h14) hall' (k := k + 1) (by omega) hy
  rw [e0, h1, Int.add_assoc, cross] at h3
  have h5 := mod7 h3 (pow7' hk)
  rw [h4, h2, ← hchk]
  omega
set_option maxRecDepth 100000 in
set_option maxHeartbeats 1000000 in
theorem told_walk (c s : Nat) (at_ : Int) (d : Nat) (w : World) (hc : c < 256) (hs : s < 18446744073709551616) (hd : d < 256) (ht : HasT w) :
    Calls Tryd.prog 6 #[.agg #[.int .u8 c, .int .u64 s], .int .i64 at_, .int .u8 d] w fun e w' => e = .returned (.bool true) ∧ Below w.heap.size w w' := by
  have hw1 : Below w.heap.size w (w.alloc (.cells #[.int .u8 c, .int .u64 s] 24)) := (Below.refl _ _).alloc (Nat.le_refl _) _
  have hrw : Rw (w.alloc (.cells #[.int .u8 c, .int .u64 s] 24)) w.heap.size [.int .u8 c, .int .u64 s] 24 := Rw.new w _ 24
  obtain ⟨w1, hw1e⟩ : ∃ w1, w1 = w.alloc (.cells #[.int .u8 c, .int .u64 s] 24) := ⟨_, rfl⟩
  rw [← hw1e] at hw1 hrw
  have HE := Calm.hid hw1e
  have HW1 := Calm.hid hw1
  have HR := Calm.hid hrw
  have HT := Calm.hid (ht.below hw1)
  have HT0 := Calm.hid ht
  clear hw1e hw1 hrw ht
  obtain ⟨m, hm⟩ : ∃ m, m = mayN c s := ⟨_, rfl⟩
  have HM := Calm.hid hm
  clear hm
  cases m
  · have HV := Calm.hid (textV_no HM.out.symm)
    go_enter Tryd.func6, Tryd.ntmps6
    go_wp2_with fail
    rw [← HE.out]
    refine (text_any c s hc hs w1 HT.out).mono ?_
    rintro e w2 ⟨rfl, hb2⟩
    rw [HV.out]
    have HB2 := Calm.hid (HW1.out.trans (hb2.mono HW1.out.size))
    have HT2 := Calm.hid (HT.out.below hb2)
    clear hb2
    go_wp2_with fail
    refine (tells_any _ HT2.out).mono ?_
    rintro e wu ⟨rfl, hbu⟩
    have HB7 := Calm.hid (HB2.out.trans (hbu.mono HB2.out.size))
    clear hbu
    go_wp2
    go_ret
    exact ⟨rfl, HB7.out⟩
  · obtain ⟨hc8, hs1, hs2⟩ := mayN_spec HM.out.symm
    have HV := Calm.hid (textV_yes HM.out.symm)
    have HP := Calm.hid (parse_text HM.out.symm)
    obtain ⟨l, hl⟩ : ∃ l, l = textOf c s := ⟨_, rfl⟩
    have h14 : l.length = 14 := by rw [hl, textOf_length]
    have HV' : Hid (textV c s = .tuple #[.string ⟨l.toArray⟩, .int .i64 0]) := by rw [hl]; exact HV.out
    obtain ⟨sa, hsa⟩ : ∃ sa : ByteArray, sa = ⟨l.toArray⟩ := ⟨_, rfl⟩
    have hsa14 : sa.size = 14 := by rw [hsa]; show l.toArray.size = 14; rw [List.size_toArray, h14]
    have HSA := Calm.hid hsa
    have H14 := Calm.hid h14
    have HAll : Hid (l.all isDig = true) := by rw [hl]; exact textOf_all c s
    have HPE : Hid (parseE l = 0) := by
      show parseE l = 0
      rw [hl]; exact parseE_text HM.out.symm
    clear hsa hl h14 HV
    go_enter Tryd.func6, Tryd.ntmps6
    go_wp2_with fail
    rw [← HE.out]
    refine (text_any c s hc hs w1 HT.out).mono ?_
    rintro e w2 ⟨rfl, hb2⟩
    rw [HV'.out, ← HSA.out]
    have HB2 := Calm.hid (HW1.out.trans (hb2.mono HW1.out.size))
    have HT2 := Calm.hid (HT.out.below hb2)
    clear hb2
    obtain ⟨wA, cA, hrunA, hbrA, hbA⟩ := conv_bytes w2 l
    rw [← HSA.out, H14.out] at hrunA
    obtain ⟨g, hg⟩ : ∃ g, g = w2.heap.size := ⟨_, rfl⟩
    have hlg : w.heap.size ≤ g := by rw [hg]; exact HB2.out.size
    rw [← hg] at hrunA hbrA
    have HBRA := Calm.hid hbrA
    have HBA := Calm.hid (HB2.out.trans (hbA.mono HB2.out.size))
    have HTA := Calm.hid (HT2.out.below hbA)
    clear hbrA hbA hg
    obtain ⟨x, hx⟩ : ∃ x : UInt8, x = UInt8.ofNat (48 + d % 10) := ⟨_, rfl⟩
    obtain ⟨X, hX⟩ : ∃ X, X = x.toNat := ⟨_, rfl⟩
    have hXd : 48 + (d : Int) % 10 = (X : Int) := by rw [hX, hx, UInt8.toNat_ofNat']; omega
    have HX := Calm.hid hX
    have HXD : Hid (isDig x = true) := by
      show isDig x = true
      rw [hx]; exact (last_dig _ (by omega)).1
    have hX48 : 48 ≤ X ∧ X ≤ 57 := by rw [hX]; exact (isDig_iff _).1 HXD.out
    clear hX hx
    have hkk : ∃ k : Nat, k < 14 ∧ ((at_.tmod 14 < 0 ∧ wrap64 (at_.tmod 14 + 14) = (k : Int)) ∨ (0 ≤ at_.tmod 14 ∧ at_.tmod 14 = (k : Int))) := by
      have h1 : -14 < at_.tmod 14 ∧ at_.tmod 14 < 14 := ⟨Int.lt_tmod_of_pos _ (by decide), Int.tmod_lt_of_pos _ (by decide)⟩
      by_cases hr : at_.tmod 14 < 0
      · exact ⟨(at_.tmod 14 + 14).toNat, by omega, .inl ⟨hr, by simp only [wrap64]; omega⟩⟩
      · exact ⟨(at_.tmod 14).toNat, by omega, .inr ⟨by omega, by omega⟩⟩
    obtain ⟨k, hk14, hk⟩ := hkk
    have HK := Calm.hid hk
    clear hk
    obtain ⟨Y, hY⟩ : ∃ Y, Y = (l.getD k 0).toNat := ⟨_, rfl⟩
    have c0 : wA.cell? ⟨g, k, none⟩ = some (.int .u8 (Y : Int)) := by rw [hY]; exact HBRA.out.cell (by rw [H14.out]; exact hk14)
    have f0 : wA.frozen? ⟨g, k, none⟩ = false := HBRA.out.free (by rw [H14.out]; exact hk14)
    have HY := Calm.hid hY
    clear hY
    have HDY : Hid (isDig (l.getD k 0) = true) := dig_get HAll.out (by rw [H14.out]; exact hk14)
    have hY48 : 48 ≤ Y ∧ Y ≤ 57 := by rw [HY.out]; exact (isDig_iff _).1 HDY.out
    obtain ⟨F, hF⟩ : ∃ F : Int, F = (X : Int) - Y := ⟨_, rfl⟩
    have HF := Calm.hid hF
    obtain ⟨l', hl'⟩ : ∃ l', l' = l.set k x := ⟨_, rfl⟩
    have HL' := Calm.hid hl'
    have h14' : l'.length = 14 := by rw [hl', List.length_set, H14.out]
    have HBRS : Hid (Br (wA.setCell ⟨g, k, none⟩ (.int .u8 (X : Int))) g l') := by
      have := HBRA.out.set (i := k) (by rw [H14.out]; exact hk14) x
      rw [← hl'] at this
      rw [HX.out]; exact this
    have hstr : (convert 34 9 (.slice (some ⟨g, 0, none⟩) 14 cA)).run Tryd.prog (wA.setCell ⟨g, k, none⟩ (.int .u8 (X : Int))) = .ok (.string ⟨l'.toArray⟩) (wA.setCell ⟨g, k, none⟩ (.int .u8 (X : Int))) := by
      have := HBRS.out.str cA
      rw [h14'] at this
      exact this
    have HBS : Hid (Below w.heap.size w (wA.setCell ⟨g, k, none⟩ (.int .u8 (X : Int)))) := HBA.out.setCell hlg _
    have HTS : Hid (HasT (wA.setCell ⟨g, k, none⟩ (.int .u8 (X : Int)))) := HT0.out.below HBS.out
    obtain ⟨A, B, hPV⟩ := parseV_agg l'
    have HPV := Calm.hid hPV
    obtain ⟨z, hz⟩ : ∃ z, z = parseE l' := ⟨_, rfl⟩
    have HZ := Calm.hid hz
    clear hF hl' hPV hz
    have hF9 : -9 ≤ F ∧ F ≤ 9 := by have := HF.out; omega
    have hcases : (¬ F = 0 ∧ ¬ F.tmod 7 = 0 ∧ z = 70) ∨ (F = 0 ∧ z = 0) ∨ (¬ F = 0 ∧ F.tmod 7 = 0 ∧ k < 13 ∧ ((z : Int) == 70) = false) ∨ (¬ F = 0 ∧ F.tmod 7 = 0 ∧ k = 13) := by
      have ht := tmod7 hF9.1 hF9.2
      have hFe : F = (x.toNat : Int) - (l.getD k 0).toNat := by rw [HF.out, HX.out, HY.out]
      by_cases h7 : F.tmod 7 = 0
      · by_cases h0 : F = 0
        · refine .inr (.inl ⟨h0, ?_⟩)
          have hxy : x = l.getD k 0 := UInt8.toNat_inj.1 (by omega)
          have : l.set k x = l := by
            rw [hxy]
            apply List.ext_getElem (by simp)
            intro i h1 h2
            rw [List.getElem_set]
            split
            · subst_vars; simp [List.getD_eq_getElem?_getD, H14.out, hk14]
            · rfl
          rw [HZ.out, HL'.out, this, HPE.out]
        · by_cases h13 : k < 13
          · refine .inr (.inr (.inl ⟨h0, h7, h13, ?_⟩))
            suffices hs : ¬ z = 70 by simp; omega
            rw [HZ.out, HL'.out, told_in HPE.out h13 HXD.out, ← hFe]
            simp only [Ne, Classical.not_not]
            exact ht.1 h7
          · exact .inr (.inr (.inr ⟨h0, h7, by omega⟩))
      · refine .inl ⟨fun h => h7 (by rw [h]; rfl), h7, ?_⟩
        have hne : ((x.toNat : Int) - (l.getD k 0).toNat) % 7 ≠ 0 := by rw [← hFe]; exact fun h => h7 (ht.2 h)
        rw [HZ.out, HL'.out]
        by_cases h13 : k < 13
        · exact (told_in HPE.out h13 HXD.out).2 hne
        · obtain rfl : k = 13 := by omega
          exact told_last HPE.out HXD.out hne
    have HCS := Calm.hid hcases
    clear hcases
    rcases HK.out with ⟨hk1, hk2⟩ | ⟨hk1, hk2⟩
    all_goals
      go_wp2_with fail
      try simp only [hk2]
      refine (parse_any l' (by have := h14'; omega) _).mono ?_
      rintro e w3 ⟨rfl, hb3⟩
      rw [HPV.out, ← HZ.out, ← HF.out]
      have HB3 := Calm.hid ((HBS.out.trans (hb3.mono HBS.out.size)).alloc (Nat.le_trans HBS.out.size hb3.size) (.cells #[.int .u8 A, .int .u64 B] 24))
      have HT3 := Calm.hid (HT0.out.below HB3.out)
      clear hb3 c0 f0 hstr hrunA hk1 hk2 hXd
      obtain ⟨w4, hw4⟩ : ∃ w4, w4 = w3.alloc (.cells #[.int .u8 A, .int .u64 B] 24) := ⟨_, rfl⟩
      rw [← hw4] at HB3 HT3
      obtain ⟨wB, cB, hrunB, hbrB, hbB⟩ := conv_bytes w4 l
      rw [← HSA.out, H14.out] at hrunB
      obtain ⟨g2, hg2⟩ : ∃ g2, g2 = w4.heap.size := ⟨_, rfl⟩
      have hlg2 : w.heap.size ≤ g2 := by rw [hg2]; exact HB3.out.size
      rw [← hg2] at hrunB hbrB
      rw [hw4] at hrunB
      have HBRB := Calm.hid hbrB
      have HBB := Calm.hid (HB3.out.trans (hbB.mono HB3.out.size))
      clear hbrB hbB hg2
      by_cases hk11 : 11 < k
      · have hk11i : (11 : Int) < k := by omega
        clear hrunB
        rcases HCS.out with ⟨hc1, hc2, rfl⟩ | ⟨rfl, rfl⟩ | ⟨hc1, hc2, hc3, hc4⟩ | ⟨hc1, hc2, rfl⟩
        all_goals
          go_wp2_with fail
          rw [← hw4]
          refine (tells_any _ HT3.out).mono ?_
          rintro e wu ⟨rfl, hbu⟩
          have HB7 := Calm.hid (HB3.out.trans (hbu.mono HB3.out.size))
          clear hbu
          go_wp2
          go_ret
          exact ⟨rfl, HB7.out⟩
      · have hk11i : ¬ (11 : Int) < k := by omega
        have hk114 : k + 1 < 14 := by omega
        obtain ⟨Z, hZ⟩ : ∃ Z, Z = (l.getD (k + 1) 0).toNat := ⟨_, rfl⟩
        have hZ48 : 48 ≤ Z ∧ Z ≤ 57 := by rw [hZ]; exact (isDig_iff _).1 (dig_get HAll.out (by rw [H14.out]; exact hk114))
        have cB0 : wB.cell? ⟨g2, k, none⟩ = some (.int .u8 (Y : Int)) := by rw [HY.out]; exact HBRB.out.cell (by rw [H14.out]; exact hk14)
        have cB1 : wB.cell? ⟨g2, k + 1, none⟩ = some (.int .u8 (Z : Int)) := by rw [hZ]; exact HBRB.out.cell (by rw [H14.out]; exact hk114)
        have HZZ := Calm.hid hZ
        clear hZ
        rcases HCS.out with ⟨hc1, hc2, rfl⟩ | ⟨rfl, rfl⟩ | ⟨hc1, hc2, hc3, hc4⟩ | ⟨hc1, hc2, rfl⟩
        rotate_left 3
        · omega
        all_goals
          go_wp2_with fail
          refine Calm.region_d 12 (by kernel_rfl) (by kernel_rfl) ?_
          simp only [List.take_succ_cons, List.take_zero, List.drop_succ_cons, List.drop_zero]
          repeat (go_big_quiet_step (fail))
          refine wpQuiet_nil ?_
          rintro _ ⟨nq, rfl⟩
          go_wp2_with fail
          obtain ⟨w5, hw5⟩ : ∃ w5, w5 = wB.drewN nq := ⟨_, rfl⟩
          have HBR5 : Hid (Br w5 g2 l) := by rw [hw5]; exact HBRB.out
          have HB5 : Hid (Below w.heap.size w w5) := by rw [hw5]; exact ⟨HBB.out.os, HBB.out.tape, HBB.out.output, HBB.out.size, HBB.out.block⟩
          have c5 : w5.cell? ⟨g2, k, none⟩ = some (.int .u8 (Y : Int)) := by rw [HY.out]; exact HBR5.out.cell (by rw [H14.out]; exact hk14)
          have d5 : w5.cell? ⟨g2, k + 1, none⟩ = some (.int .u8 (Z : Int)) := by rw [HZZ.out]; exact HBR5.out.cell (by rw [H14.out]; exact hk114)
          have f5 : w5.frozen? ⟨g2, k, none⟩ = false := HBR5.out.free (by rw [H14.out]; exact hk14)
          have e5 : w5.frozen? ⟨g2, k + 1, none⟩ = false := HBR5.out.free (by rw [H14.out]; exact hk114)
          rw [← hw5]
          clear hw5 cB0 cB1 hrunB
          obtain ⟨l2, hl2⟩ : ∃ l2, l2 = (l.set k (l.getD (k + 1) 0)).set (k + 1) (l.getD k 0) := ⟨_, rfl⟩
          have h142 : l2.length = 14 := by rw [hl2, List.length_set, List.length_set, H14.out]
          have HBRC : Hid (Br (((w5.setCell ⟨g2, k, none⟩ (.int .u8 (Z : Int))).setCell ⟨g2, k + 1, none⟩ (.int .u8 (Y : Int))).drew) g2 l2) := by
            have h1 := HBR5.out.set (i := k) (by rw [H14.out]; exact hk14) (l.getD (k + 1) 0)
            have h2 := h1.set (i := k + 1) (by rw [List.length_set, H14.out]; exact hk114) (l.getD k 0)
            rw [HZZ.out, HY.out, hl2]
            exact h2
          have hstr2 : (convert 34 9 (.slice (some ⟨g2, 0, none⟩) 14 cB)).run Tryd.prog (((w5.setCell ⟨g2, k, none⟩ (.int .u8 (Z : Int))).setCell ⟨g2, k + 1, none⟩ (.int .u8 (Y : Int))).drew) = .ok (.string ⟨l2.toArray⟩) (((w5.setCell ⟨g2, k, none⟩ (.int .u8 (Z : Int))).setCell ⟨g2, k + 1, none⟩ (.int .u8 (Y : Int))).drew) := by
            have := HBRC.out.str cB
            rw [h142] at this
            exact this
          have HBC : Hid (Below w.heap.size w (((w5.setCell ⟨g2, k, none⟩ (.int .u8 (Z : Int))).setCell ⟨g2, k + 1, none⟩ (.int .u8 (Y : Int))).drew)) := ((HB5.out.setCell hlg2 _).setCell hlg2 _).drew
          obtain ⟨A2, B2, hPV2⟩ := parseV_agg l2
          obtain ⟨z2, hz2⟩ : ∃ z, z = parseE l2 := ⟨_, rfl⟩
          obtain ⟨F2, hF2⟩ : ∃ F : Int, F = (Y : Int) - Z := ⟨_, rfl⟩
          have hF29 : -9 ≤ F2 ∧ F2 ≤ 9 := by omega
          have hz2c : (F2.tmod 7 = 0 ∧ ((z2 : Int) == 70) = false) ∨ ((F2.tmod 7 != 0) = true ∧ z2 = 70) := by
            have ht := tmod7 hF29.1 hF29.2
            have h2 := told_two HPE.out (k := k) (by omega)
            rw [← hl2, ← hz2, ← HZZ.out, ← HY.out, ← hF2, Ne, ← ht] at h2
            by_cases h7 : F2.tmod 7 = 0
            · exact .inl ⟨h7, by have h3 : ¬ z2 = 70 := fun h => h2.1 h h7; simp; omega⟩
            · exact .inr ⟨by simpa using h7, h2.2 h7⟩
          have HPV2 := Calm.hid hPV2
          have HZ2 := Calm.hid hz2
          have HF2 := Calm.hid hF2
          have HC2 := Calm.hid hz2c
          clear hl2 hPV2 hz2 hF2 hz2c
          go_region
          go_wp2_with fail
          refine (parse_any l2 (by have := h142; omega) _).mono ?_
          rintro e w6 ⟨rfl, hb6⟩
          rw [HPV2.out, ← HZ2.out, ← HF2.out]
          have HB6 := Calm.hid ((HBC.out.trans (hb6.mono HBC.out.size)).alloc (Nat.le_trans HBC.out.size hb6.size) (.cells #[.int .u8 A2, .int .u64 B2] 24))
          have HT6 := Calm.hid (HT0.out.below HB6.out)
          clear hb6 c5 d5 f5 e5 hstr2
          rcases HC2.out with ⟨hd1, hd2⟩ | ⟨hd1, rfl⟩
          all_goals
            go_wp2_with fail
            refine (tells_any _ HT6.out).mono ?_
            rintro e wu ⟨rfl, hbu⟩
            have HB7 := Calm.hid (HB6.out.trans (hbu.mono HB6.out.size))
            clear hbu
            go_wp2
            go_ret
            exact ⟨rfl, HB7.out⟩
end Go.Proofs.YtmpcknjmdealgaaDoor
