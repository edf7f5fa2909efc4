/-
  NetOrder's walk.
-/
import Derived.Test.YtfhjpnhchggljaaAlike
import Derived.Test.YtfhjpnhchggljaaActs
namespace Go.Proofs.Ytfhjpnhchggljaa
open Go.RowKit Go.Sha Go.Calm
attribute [local go_sem] Oper.semAt_some
theorem sendL_le {n : Nat} {L : List (Nat × List UInt8)} {to : Nat} {bs : List UInt8} (h : L.length ≤ 4096) : (sendL n L to bs).length ≤ 4096 := by
  unfold sendL
  split
  · rename_i h1
    unfold sendE at h1
    split at h1
    · omega
    · split at h1
      · omega
      · rw [List.length_append, List.length_singleton]; omega
  · exact h
theorem doubleL_ne {n : Nat} {L : List (Nat × List UInt8)} {i : Int} (h : doubleE n L i ≠ 0) : doubleL n L i = L := by
  unfold doubleE at h
  unfold doubleL
  split
  · rename_i hi
    rw [if_pos hi] at h
    unfold sendL
    rw [if_neg (by omega)]
  · rfl
theorem doubleL_eq {n : Nat} {L : List (Nat × List UInt8)} {i : Int} (h : doubleE n L i = 0) : ∃ x, doubleL n L i = L ++ [x] := by
  unfold doubleE at h
  unfold doubleL
  split
  · rename_i hi
    rw [if_pos hi] at h
    unfold sendL
    rw [if_pos (by omega)]
    exact ⟨_, rfl⟩
  · rename_i hi; rw [if_neg hi] at h; omega
theorem doubleL_le {n : Nat} {L : List (Nat × List UInt8)} {i : Int} (h : L.length ≤ 4096) : (doubleL n L i).length ≤ 4096 := by
  unfold doubleL
  split
  · exact sendL_le h
  · exact h
theorem lose_last (L : List (Nat × List UInt8)) (x : Nat × List UInt8) : takeL (L ++ [x]) (L.length : Nat) = L ∧ takeE (L ++ [x]) (L.length : Nat) = 0 := by
  have h : inR (L ++ [x]) (L.length : Nat) := by unfold inR; simp; omega
  unfold takeL takeE
  rw [if_pos h, if_pos h, Int.toNat_natCast]
  refine ⟨?_, rfl⟩
  rw [List.eraseIdx_append_of_length_le (Nat.le_refl _)]
  simp
theorem hold_take {L : List (Nat × List UInt8)} {r : Nat} (h : inR L r) : (holdL L r).take r = L.take r := by
  have hr : r < L.length := by have := h.2; omega
  unfold holdL
  rw [if_pos h, Int.toNat_natCast, List.take_append_of_le_length (by rw [List.length_eraseIdx, if_pos hr]; omega), List.eraseIdx_eq_take_drop_succ, List.take_append_of_le_length (by simp; omega), List.take_take, Nat.min_self]
theorem hold_mid {L : List (Nat × List UInt8)} {r : Nat} (h : inR L r) : ((holdL L r).take (L.length - 1)).drop r = (L.take L.length).drop (r + 1) := by
  have hr : r < L.length := by have := h.2; omega
  have hle : (L.eraseIdx r).length = L.length - 1 := by rw [List.length_eraseIdx, if_pos hr]
  unfold holdL
  rw [if_pos h, Int.toNat_natCast, List.take_append_of_le_length (by omega), ← hle, List.take_length, List.take_length, List.eraseIdx_eq_take_drop_succ, List.drop_append_of_le_length (by simp; omega)]
  simp
theorem hold_last {L : List (Nat × List UInt8)} {r : Nat} (h : inR L r) : ((holdL L r).take L.length).drop (L.length - 1) = (L.take (r + 1)).drop r := by
  have hr : r < L.length := by have := h.2; omega
  have hle : (L.eraseIdx r).length = L.length - 1 := by rw [List.length_eraseIdx, if_pos hr]
  unfold holdL
  rw [if_pos h, Int.toNat_natCast, List.take_of_length_le (by rw [List.length_append, hle]; simp; omega), ← hle, List.drop_left]
  rw [List.take_add_one, List.drop_append_of_le_length (by simp; omega)]
  have : L[r]? = some L[r] := List.getElem?_eq_getElem hr
  simp [List.getD_eq_getElem?_getD, this]
/-- What the loop of NetOrder holds. -/
structure OL (w : World) (n : Nat) (wr : World) : Prop where
  turns : Turns (fun k => w.heap.size ≤ k) w wr
  net : ∃ L, L.length ≤ 4096 ∧ Net wr (fun k => w.heap.size ≤ k) w.heap.size n L
set_option maxRecDepth 100000 in
set_option maxHeartbeats 2000000 in
theorem order_walk (n : Int) (p : Option Addr) (m c : Nat) (xs : List AA) (i k : Int) (w : World) (h : ActsOf w p m c xs) (hi64 : -9223372036854775808 ≤ i ∧ i < 9223372036854775808) (hk64 : -9223372036854775808 ≤ k ∧ k < 9223372036854775808) :
    Calls Try.prog 6 #[.int .i64 n, .slice p m c, .int .i64 i, .int .i64 k] w fun en w' => en = .returned (.bool true) ∧ Below w.heap.size w w' := by
  have H := Calm.hid h
  have HI64 := Calm.hid hi64
  have HK64 := Calm.hid hk64
  clear h hi64 hk64
  go_enter Try.func6, Try.ntmps6
  go_wp2_with fail
  refine (great_any p m c xs w H.out).mono ?_
  rintro e w1 ⟨rfl, rfl | ⟨rfl, hm, _⟩⟩
  · go_wp2_with fail
    refine (wakes_any w1).mono ?_
    rintro e w2 ⟨rfl, hb⟩
    have HB := Calm.hid hb
    clear hb
    go_wp2
    go_ret
    exact ⟨rfl, HB.out⟩
  · by_cases hn : n < 2 ∨ 8 < n
    · go_wp2_with fail
      refine (new_no n hn w1).mono ?_
      rintro e w2 ⟨rfl, rfl⟩
      go_wp2_with fail
      refine (wakes_any w2).mono ?_
      rintro e w3 ⟨rfl, hb⟩
      have HB := Calm.hid hb
      clear hb
      go_wp2
      go_ret
      exact ⟨rfl, HB.out⟩
    · obtain ⟨nn, rfl⟩ : ∃ nn : Nat, n = nn := ⟨n.toNat, by omega⟩
      go_wp2_with fail
      refine (new_yes nn (by omega) (by omega) w1).mono ?_
      rintro e w2 ⟨rfl, hw2⟩
      have hOL : OL w1 nn w2 := by rw [hw2]; exact ⟨(Turns.refl _ _).alloc _, [], by simp, net_new w1 nn (by omega)⟩
      have HOL := Calm.hid hOL
      clear hOL hw2
      go_wp2_with fail
      go_loopw [11] (fun ct wr => ∃ j : Nat, j ≤ m ∧ ct = .int .i64 j ∧ OL w1 nn wr) (fun ct _ => m - (intOf ct).toNat)
      case atStart => exact ⟨0, by omega, rfl, HOL.out⟩
      case round =>
        obtain ⟨j, hj, rfl, hol⟩ := hrel
        have HO := Calm.hid hol
        clear hol
        by_cases hlt : j < m
        · have hbel : Below w1.heap.size w1 wr := HO.out.turns.below (fun _ h => by omega)
          obtain ⟨g, o, a, rfl, ha, hmem, d0, d1, d2, d3⟩ := (H.out.below hbel).get hlt
          have hok := (H.out.below hbel).ok a hmem
          obtain ⟨L, hL, hN⟩ := HO.out.net
          have HOK := Calm.hid hok
          have HN := Calm.hid hN
          have HL := Calm.hid hL
          clear hbel ha hmem hok hN hL d1
          have hto := HOK.out.to
          by_cases hd : a.d = 0
          · have HD := Calm.hid hd
            rw [hd] at d0
            clear hd
            go_wp2_with fail
            refine Calm.region_d 11 (by kernel_rfl) (by kernel_rfl) ?_
            simp only [List.take, List.drop]
            repeat (go_big_quiet_step (fail))
            refine wpQuiet_nil ?_
            rintro _ ⟨nq, rfl⟩
            go_wp2_with fail
            have htq : Turns (fun _ => False) wr (wr.drewN nq) := (Turns.refl _ wr).drewN nq
            refine (send_any _ w1.heap.size nn L a.to a.p a.n a.c _ (HN.out.turns htq (fun _ _ h => h)) hto a.b (HOK.out.b.drewN nq)).mono ?_
            rintro e w3 ⟨rfl, ht, hn3⟩
            obtain ⟨ht3, hn4⟩ := step_net (HO.out.turns.drewN nq) ht hn3
            have HO3 : Hid (OL w1 nn w3) := ⟨ht3, _, sendL_le HL.out, hn4⟩
            clear ht hn3 ht3 hn4 htq d0 d2 d3
            go_wp2_with fail
            go_roundw
            case rel => exact ⟨j + 1, by omega, by go_num, HO3.out⟩
            case measure => simp [intOf]; omega
          · have hd' : ((a.d : Int) == 0) = false := by simp [hd]
            go_wp2_with fail
            go_roundw
            case rel => exact ⟨j + 1, by omega, by go_num, HO.out⟩
            case measure => simp [intOf]; omega
        · obtain ⟨L, hL, hN⟩ := HO.out.net
          have HN := Calm.hid (hN.mono (F' := fun k => w1.heap.size ≤ k ∧ k < wr.heap.size) fun k hk h => ⟨h, hk⟩)
          have HT := Calm.hid HO.out.turns
          have HL := Calm.hid hL
          clear hN hL HO
          go_wp2_with fail
          refine (letters_any _ w1.heap.size nn L wr HN.out HL.out).mono ?_
          rintro e w2 ⟨p1, c1, rfl, hls, hb⟩
          obtain ⟨l, hl⟩ : ∃ l, l = L.length := ⟨_, rfl⟩
          rw [← hl]
          have HLL := Calm.hid hl
          have hl4 : l ≤ 4096 := by have := HL.out; omega
          have HS := Calm.hid (hls.mono (K' := fun k => wr.heap.size ≤ k ∧ k < w2.heap.size) fun k hk h => ⟨h, hk⟩)
          have hsz := hb.size
          obtain ⟨G, hG⟩ : ∃ G : Nat → Prop, G = fun k => (w1.heap.size ≤ k ∧ k < wr.heap.size) ∨ w2.heap.size ≤ k := ⟨_, rfl⟩
          have hN2 : Net w2 G w1.heap.size nn L := (HN.out.turns (Turns.of_below hb) (fun k h hr => hr)).mono fun k hk h => by rw [hG]; exact .inl h
          have HG := Calm.hid hG
          have HN2 := Calm.hid hN2
          have HT2 := Calm.hid (HT.out.trans (Turns.of_below hb))
          clear hls hb hG hN2
          clear hl
          go_wp2_with fail
          refine (double_any G w1.heap.size nn L i w2 HN2.out HI64.out).mono ?_
          rintro e w3 ⟨rfl, ht, hn3⟩
          have HT3 := Calm.hid ht
          have HN3 : Hid (Net w3 G w1.heap.size nn (doubleL nn L i)) := by
            refine hn3.mono fun k hk h => h.elim id fun h => ?_
            rw [HG.out]; exact .inr h
          have hGK : Hid (∀ x, wr.heap.size ≤ x ∧ x < w2.heap.size → ¬ G x) := by
            intro x hx hg; rw [HG.out] at hg; omega
          have HS3 : Hid (LS w3 (fun k => wr.heap.size ≤ k ∧ k < w2.heap.size) p1 c1 L) := HS.out.turns HT3.out hGK.out
          have hs23 := ht.size
          clear ht hn3
          by_cases hz : doubleE nn L i = 0
          case' pos =>
            obtain ⟨x, hx⟩ := doubleL_eq hz
            have hxl : (L ++ [x]).length ≤ 4096 := by rw [← hx]; exact doubleL_le HL.out
            have HX := Calm.hid hx
            have HXL := Calm.hid hxl
            rw [hz]
            clear hz hx hxl
            go_wp2_with fail
            have HN3' : Hid (Net w3 G w1.heap.size nn (L ++ [x])) := by rw [← HX.out]; exact HN3.out
            refine (len_any G w1.heap.size nn (L ++ [x]) w3 HN3'.out).mono ?_
            rintro e w4 ⟨rfl, rfl⟩
            rw [show (L ++ [x]).length = l + 1 by rw [HLL.out]; simp]
            go_wp2_with fail
            refine (lose_any G w1.heap.size nn (L ++ [x]) (l : Nat) _ HN3'.out HXL.out (by omega)).mono ?_
            rintro e w6 ⟨rfl, ht, hn⟩
            have hll := lose_last L x
            rw [← HLL.out] at hll
            rw [hll.1] at hn
            rw [hll.2]
            have HN6 : Hid (Net w6 G w1.heap.size nn L) := by
              refine hn.mono fun k hk h => h.elim id fun h => ?_
              rw [HG.out]; exact .inr (by omega)
            have HS6 : Hid (LS w6 (fun k => wr.heap.size ≤ k ∧ k < w2.heap.size) p1 c1 L) := HS3.out.turns ht hGK.out
            have HT6 : Hid (Turns G w2 w6) := HT3.out.trans ht
            clear ht hn hll
          case' neg =>
            have HN6 : Hid (Net w3 G w1.heap.size nn L) := by rw [← doubleL_ne hz]; exact HN3.out
            have HS6 := HS3
            have HT6 := HT3
            have hz' : ((doubleE nn L i : Int) == 0) = false := by simp [hz]
            clear hz
            obtain ⟨w6, hw6⟩ : ∃ w6, w6 = w3 := ⟨_, rfl⟩
            subst hw6
          all_goals
            clear HS3 HT3 HN3
            go_wp2_with fail
            refine (hold_any G w1.heap.size nn L k w6 HN6.out HL.out HK64.out).mono ?_
            rintro e w7 ⟨rfl, ht, hn⟩
            have hN7 : Net w7 G w1.heap.size nn (holdL L k) := hn.mono fun x hk h => h.elim id fun h => by
              rw [HG.out]; exact .inr (by have := HT6.out.size; omega)
            have HN7 := Calm.hid hN7
            have hT7 : Turns G w2 w7 := HT6.out.trans ht
            have HS7 : Hid (LS w7 (fun k => wr.heap.size ≤ k ∧ k < w2.heap.size) p1 c1 L) := HS6.out.turns ht hGK.out
            have HT7 : Hid (Turns (fun k => w1.heap.size ≤ k) w1 w7) := HT2.out.trans (hT7.mono fun x _ h => by rw [HG.out] at h; omega)
            clear ht hn hN7 hT7 HN6 HS6 HT6
            by_cases hk : inR L k
            case' neg =>
              have hE : takeE L k = 1 := by unfold takeE; rw [if_neg hk]
              have hH : holdL L k = L := by unfold holdL; rw [if_neg hk]
              rw [hE]
              have HN8 : Hid (Net w7 G w1.heap.size nn L) := by rw [← hH]; exact HN7.out
              have hk' : k < 0 ∨ ¬ k < 0 ∧ (l : Int) ≤ k := by unfold inR at hk; have := HLL.out; omega
              clear hE hH hk HN7
              rcases hk' with hk' | ⟨hk1, hk2⟩
              all_goals
                go_wp2_with fail
                refine (letters_any G w1.heap.size nn L w7 HN8.out HL.out).mono ?_
                rintro e w8 ⟨p2, c2, rfl, hls, hb⟩
                rw [← HLL.out]
                have HS8 := Calm.hid hls
                have HW8 := Calm.hid (HS7.out.below hb)
                have HT8 : Hid (Turns (fun k => w1.heap.size ≤ k) w1 w8) := HT7.out.trans (Turns.of_below hb)
                clear hls hb
                go_wp2_with fail
                refine (alike_any _ _ p2 p1 l c2 c1 L w8 HS8.out HW8.out HLL.out).mono ?_
                rintro e w9 ⟨rfl, hb⟩
                have HT9 : Hid (Turns (fun k => w1.heap.size ≤ k) w1 w9) := HT8.out.trans (Turns.of_below hb)
                clear hb
                go_wp2_with fail
                refine (wakes_any w9).mono ?_
                rintro e w10 ⟨rfl, hb⟩
                have HT10 : Hid (Turns (fun k => w1.heap.size ≤ k) w1 w10) := HT9.out.trans (Turns.of_below hb)
                clear hb
                go_wp2
                go_ret
                exact ⟨rfl, HT10.out.below (fun x _ h => by omega)⟩
            case' pos =>
              obtain ⟨r, rfl⟩ : ∃ r : Nat, k = r := ⟨k.toNat, by have := hk.1; omega⟩
              have hE : takeE L r = 0 := by unfold takeE; rw [if_pos hk]
              have hrl : r < l := by have := hk.2; have := HLL.out; omega
              have hlen : (holdL L r).length = l := by
                unfold holdL
                rw [if_pos hk, List.length_append, List.length_eraseIdx, if_pos (by have := hk.2; simpa using this)]
                have := HLL.out; simp; omega
              rw [hE]
              obtain ⟨z, rfl⟩ : ∃ z, l = z + 1 := ⟨l - 1, by omega⟩
              have HLEN := Calm.hid hlen
              have HK := Calm.hid hk
              clear hE hlen hk
              go_wp2_with fail
              refine (letters_any G w1.heap.size nn _ w7 HN7.out (by rw [HLEN.out]; exact hl4)).mono ?_
              rintro e w8 ⟨p2, c2, rfl, hls, hb⟩
              rw [HLEN.out]
              have HS8 := Calm.hid hls
              have HW8 := Calm.hid (HS7.out.below hb)
              have HT8 : Hid (Turns (fun k => w1.heap.size ≤ k) w1 w8) := HT7.out.trans (Turns.of_below hb)
              clear hls hb
              obtain ⟨g1, o1, _, _, _, hp1, _⟩ := HW8.out.get (i := r) (by have := HLL.out; omega)
              obtain ⟨g2, o2, _, _, _, hp2, _⟩ := HS8.out.get (i := r) (by have := HLEN.out; omega)
              have hc1 : z + 1 ≤ c1 := by have := HW8.out.le; have := HLL.out; omega
              have hc2 : z + 1 ≤ c2 := by have := HS8.out.le; have := HLEN.out; omega
              subst hp1
              subst hp2
              go_wp2_with fail
              refine Calm.region_k 39 (by kernel_rfl) (by kernel_rfl) ?_
              simp only [List.take, List.drop]
              have HA1 : Hid (∀ q : Kept w8, Calls Try.prog 24 #[.slice (some ⟨g2, o2, none⟩) r c2, .slice (some ⟨g1, o1, none⟩) r c1] q.world fun en w' => en = .returned (.bool true) ∧ Below q.world.heap.size q.world w') := fun q => by
                have e := HLL.out
                have e2 := HLEN.out
                have h5 := (HS8.out.below q.below).take r (by omega)
                rw [hold_take HK.out] at h5
                exact alike_any _ _ _ _ r c2 c1 (L.take r) q.world h5 ((HW8.out.below q.below).take r (by omega)) (by rw [List.length_take]; omega)
              have HA2 : Hid (∀ q : Kept w8, Calls Try.prog 24 #[.slice (some ⟨g2, o2 + r * 2, none⟩) (z - r) (c2 - r), .slice (if c1 = r + 1 then some ⟨g1, o1, none⟩ else some ⟨g1, o1 + (r + 1) * 2, none⟩) (z - r) (c1 - (r + 1))] q.world fun en w' => en = .returned (.bool true) ∧ Below q.world.heap.size q.world w') := fun q => by
                have e := HLL.out
                have e2 := HLEN.out
                have h5 := (HS8.out.below q.below).sub r (L.length - 1) (by omega)
                rw [hold_mid HK.out, if_neg (by omega)] at h5
                exact alike_any _ _ _ _ (z - r) _ _ _ q.world h5 ((HW8.out.below q.below).sub (r + 1) L.length (Nat.le_refl _)) (by rw [List.length_drop, List.length_take]; omega)
              have HA3 : Hid (∀ q : Kept w8, Calls Try.prog 24 #[.slice (some ⟨g2, o2 + z * 2, none⟩) 1 (c2 - z), .slice (some ⟨g1, o1 + r * 2, none⟩) 1 (c1 - r)] q.world fun en w' => en = .returned (.bool true) ∧ Below q.world.heap.size q.world w') := fun q => by
                have e := HLL.out
                have e2 := HLEN.out
                have h5 := (HS8.out.below q.below).sub (L.length - 1) L.length (by omega)
                rw [hold_last HK.out, if_neg (by omega), show L.length - 1 = z by omega] at h5
                have h6 := (HW8.out.below q.below).sub r (r + 1) (by omega)
                rw [if_neg (by omega)] at h6
                exact alike_any _ _ _ _ 1 _ _ _ q.world h5 h6 (by rw [List.length_drop, List.length_take]; omega)
              repeat (go_big_quiet_step (fail))
              go_big_quiet_step (first | (go_at_call 24; exact Kept.call (HA1.out _)))
              repeat (go_big_quiet_step (fail))
              go_big_quiet_step (first | (go_at_call 24; exact Kept.call (HA2.out _)))
              repeat (go_big_quiet_step (fail))
              go_big_quiet_step (first | (go_at_call 24; exact Kept.call (HA3.out _)))
              repeat (go_big_quiet_step (fail))
              go_big_quiet_step (first | (go_at_call 8; exact Kept.call (wakes_any _)))
              repeat (go_big_quiet_step (fail))
              refine wpQuiet_nil ?_
              rintro _ ⟨nq, rfl⟩
              go_wp2
              all_goals
                go_ret
                exact ⟨rfl, (HT8.out.trans (Turns.of_below nq.below)).below (fun x _ h => by omega)⟩
end Go.Proofs.Ytfhjpnhchggljaa
