/-
  What a text reads as, by the document.
-/
import Derived.Test.YtmpcknjmdealgaaDoorParse
namespace Go.Proofs.YtmpcknjmdealgaaDoor
open Go.RowKit Go.Sha Go.Calm
theorem split14 {l : List UInt8} (h : l.length = 14) : l = l.take 13 ++ [l.getD 13 0] := by
  conv => lhs; rw [← List.take_append_drop 13 l]
  congr 1
  rw [List.drop_eq_getElem_cons (by omega), List.drop_of_length_le (by omega)]
  simp [show 13 < l.length by omega]
theorem split13 {l : List UInt8} (_ : l.length = 14) : l.take 13 = l.take 3 ++ (l.drop 3).take 10 := by
  rw [show 13 = 3 + 10 from rfl, List.take_add]
theorem val14 {l : List UInt8} (h : l.length = 14) (hall : l.all isDig = true) : valN l / 10 = valN (l.take 13) ∧ valN l % 10 = dn (l.getD 13 0) := by
  have e := congrArg valN (split14 h)
  rw [valN_snoc] at e
  have hd : dn (l.getD 13 0) < 10 := by
    have hx : isDig (l.getD 13 0) = true := List.all_eq_true.1 hall _ (by simp [show 13 < l.length by omega])
    exact (dn_dig hx).2
  omega
theorem val13 {l : List UInt8} (h : l.length = 14) (hall : l.all isDig = true) : valN l / 100000000000 = valN (l.take 3) ∧ valN l / 10 % 10000000000 = valN ((l.drop 3).take 10) ∧ valN (l.take 3) < 1000 := by
  have h1 := (val14 h hall).1
  rw [split13 h, valN_append] at h1
  have hl : ((l.drop 3).take 10).length = 10 := by simp; omega
  rw [hl] at h1
  have ha : ((l.drop 3).take 10).all isDig = true := List.all_eq_true.2 fun x hx => List.all_eq_true.1 hall x (List.mem_of_mem_drop (List.mem_of_mem_take hx))
  have hb : (l.take 3).all isDig = true := List.all_eq_true.2 fun x hx => List.all_eq_true.1 hall x (List.mem_of_mem_take hx)
  have h2 := valN_lt _ ha
  have h3 := valN_lt _ hb
  rw [hl] at h2
  rw [List.length_take, show min 3 l.length = 3 by omega] at h3
  omega
theorem take_val (l : List UInt8) {i : Nat} (hi : i < l.length) : valN (l.take (i + 1)) = 10 * valN (l.take i) + dn (l.getD i 0) := by
  rw [List.take_add_one, show l[i]? = some (l.getD i 0) by simp [hi]]
  exact valN_snoc _ _
theorem extract13 (s : ByteArray) (l : List UInt8) (hs : s = ⟨l.toArray⟩) : s.extract 0 13 = ⟨(l.take 13).toArray⟩ := by
  subst hs
  apply ByteArray.ext
  apply Array.toList_inj.1
  rw [Lib.extract_data]
  simp
theorem ext_of {s : ByteArray} : s.extract 0 (13 : Int).toNat = s.extract 0 13 := rfl

set_option maxRecDepth 100000 in
set_option maxHeartbeats 2000000 in
theorem parseR_any (l : List UInt8) (_ : l.length ≤ 4611686018427387904) (w : World) :
    Calls Tryd.prog 13 #[.string ⟨l.toArray⟩] w fun e w' => e = .returned (parseV l) ∧ Below w.heap.size w w' := by
  obtain ⟨s, hs⟩ : ∃ s : ByteArray, s = ⟨l.toArray⟩ := ⟨_, rfl⟩
  have hsz : s.size = l.length := by rw [hs]; simp [ByteArray.size]
  rw [← hs]
  have HS := Calm.hid hs
  have HZ0 : Hid (Rw (w.alloc (.cells #[.int .u8 0, .int .u64 0] 24)) w.heap.size [.int .u8 0, .int .u64 0] 24) := Rw.new w _ 24
  have HB0 : Hid (Below w.heap.size w (w.alloc (.cells #[.int .u8 0, .int .u64 0] 24))) := (Below.refl _ _).alloc (Nat.le_refl _) _
  clear hs
  by_cases h14 : l.length = 14
  · have hne : ((l.length : Int) != 14) = false := by simp; omega
    have H14 := Calm.hid h14
    obtain ⟨w0, hw0⟩ : ∃ w0, w0 = w.alloc (.cells #[.int .u8 0, .int .u64 0] 24) := ⟨_, rfl⟩
    have HW0 := Calm.hid hw0
    rw [← hw0] at HZ0 HB0
    clear hw0
    go_enter Tryd.func13, Tryd.ntmps13
    go_wp2
    rw [← HW0.out]
    go_loopw [4] (fun t wr => ∃ i : Nat, i ≤ 14 ∧ t = .int .i64 i ∧ (l.take i).all isDig = true ∧ w0 = wr) (fun t _ => 14 - (intOf t).toNat)
    case atStart => exact ⟨0, by omega, rfl, rfl, rfl⟩
    case round =>
      obtain ⟨i, hi, rfl, hd, rfl⟩ := hrel
      by_cases hlt : i < 14
      · obtain ⟨x, hx⟩ : ∃ x, x = l.getD i 0 := ⟨_, rfl⟩
        have hxi := fun w => index_str s l HS.out i (by omega) w
        rw [← hx] at hxi
        have hcases : (decide (B8 x < 48) = false ∧ decide (57 < B8 x) = false ∧ isDig x = true) ∨ (decide (B8 x < 48) = false ∧ decide (57 < B8 x) = true ∧ isDig x = false) ∨ (decide (B8 x < 48) = true ∧ isDig x = false) := by
          unfold isDig
          by_cases h1 : B8 x < 48 <;> by_cases h2 : 57 < B8 x <;> simp [h1, h2] <;> omega
        rcases hcases with ⟨h1, h2, h3⟩ | ⟨h1, h2, h3⟩ | ⟨h1, h3⟩
        · have HD : Hid ((l.take (i + 1)).all isDig = true) := by
            show (l.take (i + 1)).all isDig = true
            rw [List.take_add_one, show l[i]? = some (l.getD i 0) by simp [show i < l.length by omega], List.all_append, hd, ← hx]
            simp [h3]
          have HX := Calm.hid hx
          clear hx hd
          go_wp2
          go_roundw
          case rel => exact ⟨i + 1, by omega, by go_num, HD.out, by first | rfl | trivial⟩
          case measure => simp [intOf]; omega
        all_goals
          have HE : Hid (parseV l = .tuple #[ticketV 0 0, .int .i64 90]) := by
            have ha : l.all isDig = false := by
              rw [List.all_eq_false]
              exact ⟨l.getD i 0, by simp [show i < l.length by omega], by rw [← hx, h3]; simp⟩
            have e : parseE l = 90 := by rw [parseE, if_neg (by omega), if_pos ha]
            show parseV l = _
            rw [parseV, parseT, e]; rfl
          have HX := Calm.hid hx
          have HZ := HZ0
          have HB2 := HB0
          clear hx hd
          go_wp2_with (refine wpList_store_rw rfl 24 (.tmp 2) (.tmp 27) rfl w.heap.size [.int .u8 0, .int .u64 0] rfl rfl 24 _ HZ.out (by kernel_rfl) rfl (one2 _ _ rfl rfl) ?_; intro w9 hr9 ht9; have HR9 := Calm.hid hr9; have HB9 : Hid (Below w.heap.size w w9) := ((Turns.of_below HB2.out).step ht9 (R := fun _ => False) (fun k hk e => by omega)).below (fun _ _ h => h); clear hr9 ht9)
          rw [HE.out]
          exact bodyPost_ret (ret_ticket rfl rfl HR9.out rfl) rfl ⟨rfl, HB9.out⟩
      · have hall : l.all isDig = true := by
          have e : l.take i = l := List.take_of_length_le (by omega)
          rwa [e] at hd
        obtain ⟨v1, v2⟩ := val14 h14 hall
        obtain ⟨v3, v4, v5⟩ := val13 h14 hall
        have hx := fun w => index_str s l HS.out 13 (by omega) w
        have H13 := Calm.hid (extract13 s l HS.out)
        obtain ⟨y, hy⟩ : ∃ y, y = l.getD 13 0 := ⟨_, rfl⟩
        rw [← hy] at hx v2
        obtain ⟨d, hdd⟩ : ∃ d, d = dn y := ⟨_, rfl⟩
        have hdv : (B8 y - 48) % 256 = (d : Int) := by rw [hdd, ← dval_dn]; rfl
        have hd256 : d < 10 := by rw [hdd, ← v2]; omega
        obtain ⟨r, hr⟩ : ∃ r, r = leftN (l.take 13) := ⟨_, rfl⟩
        have hr7 : r < 7 := by rw [hr]; exact leftN_lt _
        have ho : ∀ q : Kept w0, Calls Tryd.prog 20 #[.string (s.extract 0 13)] q.world fun e w' => e = .returned (.int .i64 r) ∧ Below q.world.heap.size q.world w' := fun q => by
          rw [H13.out, hr]
          exact (left_any (l.take 13) (by rw [List.length_take]; omega) q.world).mono fun e w' ⟨h1, h2⟩ => ⟨h1, by rw [h2]; exact Below.refl _ _⟩
        have HO := Calm.hid ho
        obtain ⟨c, hc⟩ : ∃ c, c = valN (l.take 3) := ⟨_, rfl⟩
        obtain ⟨n, hn⟩ : ∃ n, n = valN ((l.drop 3).take 10) := ⟨_, rfl⟩
        have ep : parseE l = if r ≠ d then 70 else if mayN c n = false then 1 else 0 := by
          rw [parseE, if_neg (by omega), if_neg (by rw [hall]; simp), v3, v4, v1, v2, hr, leftN_eq, hdd, hc, hn]
        have et : parseT l = if parseE l = 0 then ticketV c n else ticketV 0 0 := by rw [parseT, v3, v4, hc, hn]
        have hc1000 : c < 1000 := by rw [hc]; exact v5
        have HEP := Calm.hid ep
        have HET := Calm.hid et
        have HC := Calm.hid hc
        have HN := Calm.hid hn
        have HALL := Calm.hid hall
        clear ep et ho hr hy hdd hc hn v1 v2 v3 v4 v5 hd hall
        have h13i : (Instr.index 9 (.string s) (.int .i64 13)).run Tryd.prog = (Instr.index 9 (.string s) (.int .i64 ((13 : Nat) : Int))).run Tryd.prog := rfl
        have hx13 : ∀ w, (Instr.index 9 (.string s) (.int .i64 13)).run Tryd.prog w = .ok (bv y) w := hx
        clear hx h13i
        by_cases hrd : r = d
        · have hnr : ((r : Int) != (d : Int)) = false := by simp; omega
          go_wp2
          refine Calm.region_k 8 (by kernel_rfl) (by kernel_rfl) ?_
          simp only [List.take_succ_cons, List.take_zero, List.drop_succ_cons, List.drop_zero]
          repeat (go_big_quiet_step ((go_at_call 20; exact Kept.call (HO.out _))))
          refine wpQuiet_nil ?_
          rintro _ ⟨nq, rfl⟩
          refine wpList_nil ?_
          clear hx13
          have HZ1 := Calm.hid (HZ0.out.below nq.below)
          have HB1 := Calm.hid (HB0.out.trans (nq.below.mono HB0.out.size))
          obtain ⟨wq, hwq⟩ : ∃ wq, wq = nq.world := ⟨_, rfl⟩
          rw [← hwq] at HZ1 HB1 ⊢
          clear hwq
          go_wp2
          go_loopw [5, 6, 7] (fun u v t wr => ∃ i : Nat, i ≤ 13 ∧ t = .int .i64 i ∧ u = .int .i64 (valN (l.take (min i 3))) ∧ v = .int .u64 (valN ((l.drop 3).take (i - 3))) ∧ wq = wr) (fun _ _ t _ => 13 - (intOf t).toNat)
          case atStart => exact ⟨0, by omega, rfl, rfl, rfl, rfl⟩
          case round =>
            clear hlt hi
            obtain ⟨i, hi, rfl, rfl, rfl, hwr⟩ := hrel
            subst hwr
            by_cases hlt : i < 13
            · obtain ⟨x, hx⟩ : ∃ x, x = l.getD i 0 := ⟨_, rfl⟩
              have hxi := fun w => index_str s l HS.out i (by have := H14.out; omega) w
              rw [← hx] at hxi
              obtain ⟨e, hde⟩ : ∃ e, e = dn x := ⟨_, rfl⟩
              have hdve : (B8 x - 48) % 256 = (e : Int) := by rw [hde, ← dval_dn]; rfl
              have he10 : e < 10 := by
                have hxd : isDig x = true := List.all_eq_true.1 HALL.out _ (by rw [hx]; have := H14.out; simp [show i < l.length by omega])
                rw [hde]; exact (dn_dig hxd).2
              have ha3 : (l.take (min i 3)).all isDig = true := List.all_eq_true.2 fun z hz => List.all_eq_true.1 HALL.out z (List.mem_of_mem_take hz)
              have hb3 : ((l.drop 3).take (i - 3)).all isDig = true := List.all_eq_true.2 fun z hz => List.all_eq_true.1 HALL.out z (List.mem_of_mem_drop (List.mem_of_mem_take hz))
              obtain ⟨a, ha⟩ : ∃ a, a = valN (l.take (min i 3)) := ⟨_, rfl⟩
              obtain ⟨b, hb⟩ : ∃ b, b = valN ((l.drop 3).take (i - 3)) := ⟨_, rfl⟩
              have ha1 : a < 1000 := by
                have h1 := valN_lt _ ha3
                rw [ha]
                exact Nat.lt_of_lt_of_le h1 (show 10 ^ (l.take (min i 3)).length ≤ 10 ^ 3 from Nat.pow_le_pow_right (by decide) (by rw [List.length_take]; omega))
              have hb1 : b < 10000000000 := by
                have h1 := valN_lt _ hb3
                rw [hb]
                exact Nat.lt_of_lt_of_le h1 (show 10 ^ ((l.drop 3).take (i - 3)).length ≤ 10 ^ 10 from Nat.pow_le_pow_right (by decide) (by rw [List.length_take]; omega))
              have hu1 : IntKind.u64.wrap (10 * (b : Int)) = 10 * (b : Int) := by rw [IntKind.wrap_u64]; omega
              have hu2 : IntKind.u64.wrap (10 * (b : Int) + (e : Int)) = 10 * (b : Int) + (e : Int) := by rw [IntKind.wrap_u64]; omega
              rw [← ha, ← hb]
              have HX := Calm.hid hx
              have HDE := Calm.hid hde
              have HAA := Calm.hid ha
              have HBB := Calm.hid hb
              clear hx hde ha hb ha3 hb3
              by_cases h3 : i < 3
              · have hi3 : decide ((i : Int) < 3) = true := by simp; omega
                have HST : Hid (valN (l.take (min (i + 1) 3)) = 10 * a + e ∧ valN ((l.drop 3).take (i + 1 - 3)) = b) := by
                  constructor
                  · have := take_val l (i := i) (by have := H14.out; omega)
                    rw [show min (i + 1) 3 = i + 1 by omega, this, HAA.out, show min i 3 = i by omega, HDE.out, HX.out]
                  · rw [HBB.out, show i + 1 - 3 = i - 3 by omega]
                go_wp2
                go_roundw
                case rel => exact ⟨i + 1, by omega, by go_num, by rw [HST.out.1]; simp, by rw [HST.out.2], by first | rfl | trivial⟩
                case measure => simp [intOf]; omega
              · have hi3 : decide ((i : Int) < 3) = false := by simp; omega
                have HST : Hid (valN (l.take (min (i + 1) 3)) = a ∧ valN ((l.drop 3).take (i + 1 - 3)) = 10 * b + e) := by
                  constructor
                  · rw [HAA.out, show min (i + 1) 3 = min i 3 by omega]
                  · have := take_val (l.drop 3) (i := i - 3) (by have := H14.out; rw [List.length_drop]; omega)
                    rw [show i + 1 - 3 = i - 3 + 1 by omega, this, HBB.out, HDE.out, HX.out]
                    congr 2
                    simp only [List.getD_eq_getElem?_getD, List.getElem?_drop]
                    rw [show 3 + (i - 3) = i by omega]
                go_wp2
                go_roundw
                case rel => exact ⟨i + 1, by omega, by go_num, by rw [HST.out.1], by rw [HST.out.2]; simp, by first | rfl | trivial⟩
                case measure => simp [intOf]; omega
            · have HI : Hid (i = 13) := show i = 13 by omega
              have HC2 : Hid (valN (l.take (min i 3)) = c) := by show valN (l.take (min i 3)) = c; rw [HI.out, HC.out]; rfl
              have HN2 : Hid (valN ((l.drop 3).take (i - 3)) = n) := by show valN ((l.drop 3).take (i - 3)) = n; rw [HI.out, HN.out]
              rw [HC2.out, HN2.out]
              by_cases hc8 : c < 8
              · have hcd : decide (8 ≤ (c : Int)) = false := by simp; omega
                have hc256 : (c : Int) % 256 = (c : Int) := by omega
                have HNB : Hid (Below w.heap.size w (wq.alloc (.cells #[.int .u8 c, .int .u64 n] 24))) := HB1.out.alloc HB1.out.size _
                have HNZ : Hid (Rw (wq.alloc (.cells #[.int .u8 c, .int .u64 n] 24)) w.heap.size [.int .u8 0, .int .u64 0] 24) := HZ1.out.alloc _
                have HNW : Hid (Rw (wq.alloc (.cells #[.int .u8 c, .int .u64 n] 24)) wq.heap.size [.int .u8 c, .int .u64 n] 24) := Rw.new wq _ 24
                obtain ⟨m, hm⟩ : ∃ m, m = mayN c n := ⟨_, rfl⟩
                have HM := Calm.hid hm
                cases m
                · have HE : Hid (parseV l = .tuple #[ticketV 0 0, .int .i64 1]) := by
                    have e : parseE l = 1 := by rw [HEP.out, if_neg (by simp [hrd]), if_pos hm.symm]
                    show parseV l = _
                    rw [parseV, HET.out, e]; rfl
                  clear hm
                  go_wp2_with fail
                  refine (May_any c n _).mono ?_
                  rintro e w5 ⟨rfl, hb5⟩
                  rw [← HM.out]
                  have HZ := Calm.hid (HNZ.out.below hb5)
                  have HB2 := Calm.hid (HNB.out.trans (hb5.mono HNB.out.size))
                  clear hb5
                  go_wp2_with (refine wpList_store_rw rfl 24 (.tmp 2) (.tmp 70) rfl w.heap.size [.int .u8 0, .int .u64 0] rfl rfl 24 _ HZ.out (by kernel_rfl) rfl (one2 _ _ rfl rfl) ?_; intro w9 hr9 ht9; have HR9 := Calm.hid hr9; have HB9 : Hid (Below w.heap.size w w9) := ((Turns.of_below HB2.out).step ht9 (R := fun _ => False) (fun k hk e => by omega)).below (fun _ _ h => h); clear hr9 ht9)
                  rw [HE.out]
                  exact bodyPost_ret (ret_ticket rfl rfl HR9.out rfl) rfl ⟨rfl, HB9.out⟩
                · have HE : Hid (parseV l = .tuple #[ticketV c n, .int .i64 0]) := by
                    have e : parseE l = 0 := by rw [HEP.out, if_neg (by simp [hrd]), if_neg (by rw [← hm]; simp)]
                    show parseV l = _
                    rw [parseV, HET.out, e]; rfl
                  clear hm
                  go_wp2_with fail
                  refine (May_any c n _).mono ?_
                  rintro e w5 ⟨rfl, hb5⟩
                  rw [← HM.out]
                  have HZ := Calm.hid (HNZ.out.below hb5)
                  have HB2 := Calm.hid (HNB.out.trans (hb5.mono HNB.out.size))
                  have ca := (HNW.out.below hb5).cell (i := 0) rfl
                  have cb := (HNW.out.below hb5).cell (i := 1) rfl
                  clear hb5
                  go_wp2_with (refine wpList_store_rw rfl 24 (.tmp 2) (.tmp 71) rfl w.heap.size [.int .u8 c, .int .u64 n] rfl rfl 24 _ HZ.out (by kernel_rfl) rfl (one2 _ _ rfl rfl) ?_; intro w9 hr9 ht9; have HR9 := Calm.hid hr9; have HB9 : Hid (Below w.heap.size w w9) := ((Turns.of_below HB2.out).step ht9 (R := fun _ => False) (fun k hk e => by omega)).below (fun _ _ h => h); clear hr9 ht9)
                  rw [HE.out]
                  exact bodyPost_ret (ret_ticket rfl rfl HR9.out rfl) rfl ⟨rfl, HB9.out⟩
              · have hcd : decide (8 ≤ (c : Int)) = true := by simp; omega
                have HE : Hid (parseV l = .tuple #[ticketV 0 0, .int .i64 1]) := by
                  have hm : mayN c n = false := by unfold mayN; simp [hc8]
                  have e : parseE l = 1 := by rw [HEP.out, if_neg (by simp [hrd]), if_pos hm]
                  show parseV l = _
                  rw [parseV, HET.out, e]; rfl
                have HZ : Hid (∀ o, Rw (wq.alloc o) w.heap.size [.int .u8 0, .int .u64 0] 24) := fun o => HZ1.out.alloc o
                have HB2 : Hid (∀ o, Below w.heap.size w (wq.alloc o)) := fun o => HB1.out.alloc HB1.out.size o
                go_wp2_with (refine wpList_store_rw rfl 24 (.tmp 2) (.tmp 70) rfl w.heap.size [.int .u8 0, .int .u64 0] rfl rfl 24 _ (HZ.out _) (by kernel_rfl) rfl (one2 _ _ rfl rfl) ?_; intro w9 hr9 ht9; have HR9 := Calm.hid hr9; have HB9 : Hid (Below w.heap.size w w9) := ((Turns.of_below (HB2.out _)).step ht9 (R := fun _ => False) (fun k hk e => by omega)).below (fun _ _ h => h); clear hr9 ht9)
                rw [HE.out]
                exact bodyPost_ret (ret_ticket rfl rfl HR9.out rfl) rfl ⟨rfl, HB9.out⟩
        · have hnr : ((r : Int) != (d : Int)) = true := by simp; omega
          have HE : Hid (parseV l = .tuple #[ticketV 0 0, .int .i64 70]) := by
            have e : parseE l = 70 := by rw [HEP.out, if_pos hrd]
            show parseV l = _
            rw [parseV, HET.out, e]; rfl
          go_wp2
          refine Calm.region_k 8 (by kernel_rfl) (by kernel_rfl) ?_
          simp only [List.take_succ_cons, List.take_zero, List.drop_succ_cons, List.drop_zero]
          repeat (go_big_quiet_step ((go_at_call 20; exact Kept.call (HO.out _))))
          refine wpQuiet_nil ?_
          rintro _ ⟨nq, rfl⟩
          refine wpList_nil ?_
          have HZ := Calm.hid (HZ0.out.below nq.below)
          have HB2 := Calm.hid (HB0.out.trans (nq.below.mono HB0.out.size))
          clear hx13
          go_wp2_with (refine wpList_store_rw rfl 24 (.tmp 2) (.tmp 36) rfl w.heap.size [.int .u8 0, .int .u64 0] rfl rfl 24 _ HZ.out (by kernel_rfl) rfl (one2 _ _ rfl rfl) ?_; intro w9 hr9 ht9; have HR9 := Calm.hid hr9; have HB9 : Hid (Below w.heap.size w w9) := ((Turns.of_below HB2.out).step ht9 (R := fun _ => False) (fun k hk e => by omega)).below (fun _ _ h => h); clear hr9 ht9)
          rw [HE.out]
          exact bodyPost_ret (ret_ticket rfl rfl HR9.out rfl) rfl ⟨rfl, HB9.out⟩
  · have hne : ((l.length : Int) != 14) = true := by simp; omega
    have HE : Hid (parseV l = .tuple #[ticketV 0 0, .int .i64 90]) := by
      have e : parseE l = 90 := by rw [parseE, if_pos h14]
      show parseV l = _
      rw [parseV, parseT, e]; rfl
    have HZ := HZ0
    have HB2 := HB0
    go_enter Tryd.func13, Tryd.ntmps13
    go_wp2_with (refine wpList_store_rw rfl 24 (.tmp 2) (.tmp 12) rfl w.heap.size [.int .u8 0, .int .u64 0] rfl rfl 24 _ HZ.out (by kernel_rfl) rfl (one2 _ _ rfl rfl) ?_; intro w9 hr9 ht9; have HR9 := Calm.hid hr9; have HB9 : Hid (Below w.heap.size w w9) := ((Turns.of_below HB2.out).step ht9 (R := fun _ => False) (fun k hk e => by omega)).below (fun _ _ h => h); clear hr9 ht9)
    rw [HE.out]
    exact bodyPost_ret (ret_ticket rfl rfl HR9.out rfl) rfl ⟨rfl, HB9.out⟩
end Go.Proofs.YtmpcknjmdealgaaDoor
