/-
  Len, Lose, Double, and Hold.
-/
import Derived.Test.YtfhjpnhchggljaaTake
namespace Go.Proofs.Ytfhjpnhchggljaa
open Go.RowKit Go.Sha Go.Calm
attribute [local go_sem] Oper.semAt_some
theorem getElem?_of (L : List (Nat × List UInt8)) {i : Nat} (h : i < L.length) : ∃ x, L[i]? = some x := ⟨L[i], by simp [h]⟩
set_option maxRecDepth 100000 in
theorem len_any (F : Nat → Prop) (b n : Nat) (L : List (Nat × List UInt8)) (w : World) (hN : Net w F b n L) : Calls Try.prog 21 #[.pointer (some ⟨b, 0, none⟩)] w fun e w' => e = .returned (.int .i64 (L.length : Nat)) ∧ w' = w := by
  obtain ⟨p, c, cs, hN⟩ := hN
  obtain ⟨m, hm⟩ : ∃ m, m = L.length := ⟨_, rfl⟩
  rw [← hm]
  have hc1 := hN.rw_
  rw [← hm] at hc1
  have c1 := hc1.cell (i := 1) rfl
  clear hN hm hc1
  go_enter Try.func21, Try.ntmps21
  go_wp2
  go_ret
  exact ⟨rfl, rfl⟩
def inR (L : List (Nat × List UInt8)) (i : Int) : Prop := 0 ≤ i ∧ i < L.length
instance (L : List (Nat × List UInt8)) (i : Int) : Decidable (inR L i) := by unfold inR; infer_instance
def takeL (L : List (Nat × List UInt8)) (i : Int) : List (Nat × List UInt8) := if inR L i then L.eraseIdx i.toNat else L
def takeE (L : List (Nat × List UInt8)) (i : Int) : Int := if inR L i then 0 else 1
set_option maxRecDepth 100000 in
set_option maxHeartbeats 1000000 in
theorem lose_any (F : Nat → Prop) (b n : Nat) (L : List (Nat × List UInt8)) (i : Int) (w : World) (hN : Net w F b n L) (hL : L.length ≤ 4096) (h64 : -9223372036854775808 ≤ i ∧ i < 9223372036854775808) :
    Calls Try.prog 16 #[.pointer (some ⟨b, 0, none⟩), .int .i64 i] w fun en w' => en = .returned (.int .i64 (takeE L i)) ∧ Turns F w w' ∧ Net w' (fun k => F k ∨ w.heap.size ≤ k) b n (takeL L i) := by
  have HN := Calm.hid hN
  by_cases h : inR L i
  · obtain ⟨j, rfl⟩ : ∃ j : Nat, i = j := ⟨i.toNat, by have := h.1; omega⟩
    obtain ⟨x, hx⟩ := getElem?_of L (i := j) (by have := h.2; omega)
    have htk := take_in F b n L j x w hN hL hx
    have HTK := Calm.hid htk
    have HH := Calm.hid h
    clear htk hN hL hx h
    clear h64
    go_enter Try.func16, Try.ntmps16
    go_wp2_with fail
    refine HTK.out.mono ?_
    rintro e w2 ⟨q, cq, rfl, ht, p', c', cs', hn, hl⟩
    have HT := Calm.hid ht
    have HN' := Calm.hid hn
    clear ht hn hl
    go_wp2
    go_ret
    refine ⟨?_, HT.out.alloc _, ?_⟩
    · rw [takeE, if_pos HH.out]; rfl
    · rw [takeL, if_pos HH.out]
      exact (HN'.out.turns ((Turns.refl (fun _ => False) w2).alloc _) (fun _ _ h => h)).net
  · have htk := take_out F b n L i w hN (by unfold inR at h; omega) h64
    have HTK := Calm.hid htk
    have HH := Calm.hid h
    clear htk hN hL h
    clear h64
    go_enter Try.func16, Try.ntmps16
    go_wp2_with fail
    refine HTK.out.mono ?_
    rintro e w2 ⟨rfl, hb⟩
    have HB := Calm.hid hb
    clear hb
    unfold noLetter
    go_wp2
    go_ret
    refine ⟨?_, ?_, ?_⟩
    · rw [takeE, if_neg HH.out]; rfl
    · exact ((Turns.of_below HB.out).alloc _)
    · rw [takeL, if_neg HH.out]
      exact (HN.out.turns ((Turns.of_below (R := fun _ => False) HB.out).alloc _) (fun _ _ h => h)).mono fun k _ h => .inl h
set_option maxRecDepth 100000 in
set_option maxHeartbeats 1000000 in
theorem double1_any (F : Nat → Prop) (b n : Nat) (L : List (Nat × List UInt8)) (bx : Nat) (t1 : TypeId) (x : Nat × List UInt8) (q : Option Addr) (cq : Nat) (w : World) (hN : Net w F b n L)
    (hbx : Rw w bx [.pointer (some ⟨b, 0, none⟩)] t1) (hx : x.1 < 256) (hq : BytesOf w q x.2.length cq x.2) :
    Calls Try.prog 28 #[.agg #[.int .u8 x.1, .slice q x.2.length cq], .pointer (some ⟨bx, 0, none⟩)] w fun en w' => en = .returned (.int .i64 (sendE n L x.1 x.2 : Nat)) ∧ Turns F w w' ∧ Net w' (fun k => F k ∨ w.heap.size ≤ k) b n (sendL n L x.1 x.2) := by
  obtain ⟨wa, hwa⟩ : ∃ wa, wa = w.alloc (.cells #[.int .u8 x.1, .slice q x.2.length cq] 36) := ⟨_, rfl⟩
  have hta : Turns (fun _ => False) w wa := by rw [hwa]; exact (Turns.refl _ w).alloc _
  have ra : Rw wa w.heap.size [.int .u8 x.1, .slice q x.2.length cq] 36 := by rw [hwa]; exact Rw.new w _ 36
  have rx : Rw wa bx [.pointer (some ⟨b, 0, none⟩)] t1 := hbx.turns hta id
  have d0 := ra.cell (i := 0) rfl
  have d1 := ra.cell (i := 1) rfl
  have d2 := rx.cell (i := 0) rfl
  have hsend := send_any F b n L x.1 q x.2.length cq wa (hN.turns hta (fun _ _ h => h)) hx x.2 (hq.turns hta (fun _ _ _ h => h))
  have HS := Calm.hid hsend
  have HW := Calm.hid hwa
  have HT := Calm.hid hta
  clear hsend hta ra rx hq hbx hN
  rw [hwa] at d0 d1 d2
  clear hwa
  go_enter Try.func28, Try.ntmps28
  go_wp2_with fail
  rw [← HW.out]
  refine HS.out.mono ?_
  rintro e w2 ⟨rfl, ht, hn⟩
  have HT2 := Calm.hid ht
  have HN2 := Calm.hid hn
  clear ht hn
  go_wp2
  go_ret
  have hs := HT.out.size
  exact ⟨rfl, (HT.out.mono (fun _ _ h => h.elim)).trans HT2.out, HN2.out.mono fun k _ h => h.elim .inl fun h => .inr (by omega)⟩
set_option maxRecDepth 100000 in
set_option maxHeartbeats 1000000 in
theorem with_double (F : Nat → Prop) (b n : Nat) (L : List (Nat × List UInt8)) (bx : Nat) (t1 : TypeId) (i : Nat) (x : Nat × List UInt8) (w : World) (hN : Net w F b n L) (hx : L[i]? = some x)
    (hbx : Rw w bx [.pointer (some ⟨b, 0, none⟩)] t1) :
    Calls Try.prog 26 #[.pointer (some ⟨b, 0, none⟩), .int .i64 i, .func (Fn.func 28) #[] #[.pointer (some ⟨bx, 0, none⟩)]] w fun en w' => en = .returned (.int .i64 (sendE n L x.1 x.2 : Nat)) ∧ Turns F w w' ∧ Net w' (fun k => F k ∨ w.heap.size ≤ k) b n (sendL n L x.1 x.2) := by
  have hN0 := hN
  obtain ⟨p, c, cs, hN⟩ := hN
  have him : i < L.length := (List.getElem?_eq_some_iff.1 hx).1
  obtain ⟨g, hg⟩ : ∃ g, p = some ⟨g, 0, none⟩ := by
    cases hp : p with
    | none => have := (hN.row.nil hp).1; omega
    | some ad => obtain ⟨g, rfl, _⟩ := hN.row.at_ ad hp; exact ⟨g, rfl⟩
  obtain ⟨q, cq, l0, l1, hlv⟩ := hN.lv.at hx
  obtain ⟨m, hm⟩ : ∃ m, m = L.length := ⟨_, rfl⟩
  have hlet := double1_any F b n L bx t1 x q cq w hN0 hbx hlv.1.2.1 (by obtain ⟨_, _, _, p', c', e, h, _⟩ := hlv.1; cases e; exact h)
  have hc1 := hN.rw_
  rw [← hm] at hc1 him
  have c1 := hc1.cell (i := 1) rfl
  have d0 : w.cell? ⟨g, i * 2, none⟩ = some (.int .u8 x.1) := by
    obtain ⟨g', e, _, _, _, h5, _⟩ := hN.row.at_ _ hg; cases e; exact h5 _ _ l0
  have d1 : w.cell? ⟨g, i * 2 + 1, none⟩ = some (.slice q x.2.length cq) := by
    obtain ⟨g', e, _, _, _, h5, _⟩ := hN.row.at_ _ hg; cases e; exact h5 _ _ l1
  have HLET := Calm.hid hlet
  clear hN hN0 hlet hlv hbx hx l0 l1
  clear hm hc1
  subst hg
  go_enter Try.func26, Try.ntmps26
  go_wp2_with fail
  refine HLET.out.mono ?_
  rintro e w2 ⟨rfl, ht, hn⟩
  have HT := Calm.hid ht
  have HN' := Calm.hid hn
  clear ht hn
  go_wp2
  go_ret
  exact ⟨rfl, HT.out, HN'.out⟩
def doubleE (n : Nat) (L : List (Nat × List UInt8)) (i : Int) : Int := if inR L i then (sendE n L (L.getD i.toNat (0, [])).1 (L.getD i.toNat (0, [])).2 : Nat) else 1
def doubleL (n : Nat) (L : List (Nat × List UInt8)) (i : Int) : List (Nat × List UInt8) := if inR L i then sendL n L (L.getD i.toNat (0, [])).1 (L.getD i.toNat (0, [])).2 else L
set_option maxRecDepth 100000 in
set_option maxHeartbeats 1000000 in
theorem double_any (F : Nat → Prop) (b n : Nat) (L : List (Nat × List UInt8)) (i : Int) (w : World) (hN : Net w F b n L) (h64 : -9223372036854775808 ≤ i ∧ i < 9223372036854775808) :
    Calls Try.prog 17 #[.pointer (some ⟨b, 0, none⟩), .int .i64 i] w fun en w' => en = .returned (.int .i64 (doubleE n L i)) ∧ Turns F w w' ∧ Net w' (fun k => F k ∨ w.heap.size ≤ k) b n (doubleL n L i) := by
  obtain ⟨wa, hwa⟩ : ∃ wa, wa = w.alloc (.cells #[.pointer (some ⟨b, 0, none⟩)] 25) := ⟨_, rfl⟩
  have hta : Turns (fun _ => False) w wa := by rw [hwa]; exact (Turns.refl _ w).alloc _
  have ra : Rw wa w.heap.size [.pointer (some ⟨b, 0, none⟩)] 25 := by rw [hwa]; exact Rw.new w _ 25
  have hNa : Net wa F b n L := hN.turns hta (fun _ _ h => h)
  have d0 := ra.cell (i := 0) rfl
  by_cases h : inR L i
  · obtain ⟨j, rfl⟩ : ∃ j : Nat, i = j := ⟨i.toNat, by have := h.1; omega⟩
    obtain ⟨x, hx⟩ := getElem?_of L (i := j) (by have := h.2; omega)
    have hget : L.getD (j : Int).toNat (0, []) = x := by simp [List.getD_eq_getElem?_getD, hx]
    have hw := with_double F b n L w.heap.size 25 j x wa hNa hx ra
    rw [doubleE, doubleL, if_pos h, if_pos h, hget]
    have HWI := Calm.hid hw
    have HT := Calm.hid hta
    have HW := Calm.hid hwa
    rw [hwa] at d0
    clear hw hta hwa hN hNa hx hget ra h h64
    go_enter Try.func17, Try.ntmps17
    go_wp2_with fail
    rw [← HW.out]
    refine HWI.out.mono ?_
    rintro e w2 ⟨rfl, ht, hn⟩
    have HT2 := Calm.hid ht
    have HN2 := Calm.hid hn
    clear ht hn
    go_wp2
    go_ret
    have hs := HT.out.size
    exact ⟨rfl, (HT.out.mono (fun _ _ h => h.elim)).trans HT2.out, HN2.out.mono fun k _ h => h.elim .inl fun h => .inr (by omega)⟩
  · rw [doubleE, doubleL, if_neg h, if_neg h]
    obtain ⟨p, c, cs, hNp⟩ := id hNa
    have hw := fun f => with_out b n L.length c p i f wa hNp.rw_ (by unfold inR at h; omega) h64
    have HWI := Calm.hid hw
    have HT := Calm.hid hta
    have HW := Calm.hid hwa
    have HN := Calm.hid hNa
    rw [hwa] at d0
    clear hw hta hwa hN hNa hNp ra h h64
    go_enter Try.func17, Try.ntmps17
    go_wp2_with fail
    rw [← HW.out]
    refine (HWI.out _).mono ?_
    rintro e w2 ⟨rfl, rfl⟩
    go_wp2
    go_ret
    exact ⟨rfl, HT.out.mono (fun _ _ h => h.elim), HN.out.mono fun k _ h => .inl h⟩
def holdL (L : List (Nat × List UInt8)) (i : Int) : List (Nat × List UInt8) := if inR L i then L.eraseIdx i.toNat ++ [L.getD i.toNat (0, [])] else L
set_option maxRecDepth 100000 in
set_option maxHeartbeats 1000000 in
theorem hold_any (F : Nat → Prop) (b n : Nat) (L : List (Nat × List UInt8)) (i : Int) (w : World) (hN : Net w F b n L) (hL : L.length ≤ 4096) (h64 : -9223372036854775808 ≤ i ∧ i < 9223372036854775808) :
    Calls Try.prog 19 #[.pointer (some ⟨b, 0, none⟩), .int .i64 i] w fun en w' => en = .returned (.int .i64 (takeE L i)) ∧ Turns F w w' ∧ Net w' (fun k => F k ∨ w.heap.size ≤ k) b n (holdL L i) := by
  obtain ⟨i0, hi0, hz0, hz1, hz2⟩ := info_parts Try.info36
  by_cases h : inR L i
  · obtain ⟨j, rfl⟩ : ∃ j : Nat, i = j := ⟨i.toNat, by have := h.1; omega⟩
    obtain ⟨x, hx⟩ := getElem?_of L (i := j) (by have := h.2; omega)
    have hget : L.getD (j : Int).toNat (0, []) = x := by simp [List.getD_eq_getElem?_getD, hx]
    have htk := take_in (fun k => F k ∧ k < w.heap.size) b n L j x w (hN.mono fun k hk h => ⟨h, hk⟩) hL hx
    rw [takeE, holdL, if_pos h, if_pos h, hget]
    have HTK := Calm.hid htk
    have hjl : (L.eraseIdx j).length ≤ 4095 := by rw [List.length_eraseIdx]; have := h.2; split <;> omega
    clear htk hN hL hx h hget
    clear h64
    go_enter Try.func19, Try.ntmps19
    go_wp2_with fail
    refine HTK.out.mono ?_
    rintro e w2 ⟨q, cq, rfl, ht, p, c, cs, hn, hl⟩
    obtain ⟨G, hG⟩ : ∃ G : Nat → Prop, G = fun k => (F k ∧ k < w.heap.size) ∨ w.heap.size ≤ k ∧ k < w2.heap.size := ⟨_, rfl⟩
    obtain ⟨m, hm⟩ : ∃ m, m = (L.eraseIdx j).length := ⟨_, rfl⟩
    obtain ⟨R, hR⟩ : ∃ R : Nat → Prop, R = rowBlk p := ⟨_, rfl⟩
    have hnG : NetP w2 G b n (L.eraseIdx j) p c cs := by rw [hG]; exact hn.mono fun k hk h => h.elim .inl fun h => .inr ⟨h, hk⟩
    have hlG : LV w2 (fun k => G k ∧ k ≠ b ∧ ¬ rowBlk p k) [.int .u8 x.1, .slice q x.2.length cq] [x] := by rw [hG]; exact hl.mono fun k hk h => ⟨h.1.elim .inl fun h => .inr ⟨h, hk⟩, h.2⟩
    obtain ⟨w3, hw3⟩ : ∃ w3, w3 = w2.alloc (.cells #[.int .u8 x.1, .slice q x.2.length cq] 36) := ⟨_, rfl⟩
    have ht3 : Turns (fun _ => False) w2 w3 := by rw [hw3]; exact (Turns.refl _ w2).alloc _
    have ro : Rw w3 w2.heap.size [.int .u8 x.1, .slice q x.2.length cq] 36 := by rw [hw3]; exact Rw.new w2 _ 36
    have hs3 : w3.heap.size = w2.heap.size + 1 := by rw [hw3]; simp
    have hn3 := hnG.turns ht3 (fun _ _ h => h)
    have hb3 := hn3.lt
    have hbR : ¬ R b := by rw [hR]; exact fun h => (hn3.row.blk h).2.1 rfl
    have hoR : ¬ R w2.heap.size := by rw [hR]; intro h; have := (hnG.row.blk h).2.2; omega
    have hm4 : m ≤ 4095 := by omega
    have k1 : ∀ q : KeptR R w3, q.world.cell? ⟨b, 1, none⟩ = some (.slice p m c) := fun q => (q.turns.cell hb3 hbR).trans (by have := hn3.rw_.cell (i := 1) rfl; rwa [← hm] at this)
    have k2 : ∀ z : KeptR R w3, z.world.cell? ⟨w2.heap.size, 0, none⟩ = some (.int .u8 x.1) := fun z => (z.turns.cell ro.lt hoR).trans (ro.cell (i := 0) rfl)
    have k3 : ∀ z : KeptR R w3, z.world.cell? ⟨w2.heap.size, 1, none⟩ = some (.slice q x.2.length cq) := fun z => (z.turns.cell ro.lt hoR).trans (ro.cell (i := 1) rfl)
    have HT := Calm.hid ht
    have HN3 := Calm.hid hn3
    have HL3 := Calm.hid hlG
    have HG := Calm.hid hG
    have HM := Calm.hid hm
    have HR := Calm.hid hR
    have HT3 := Calm.hid ht3
    have HRO := Calm.hid ro
    have HW3 := Calm.hid hw3
    have HJL := Calm.hid hjl
    clear ht hn hl hnG hlG ht3 ro hn3 hjl
    clear hG
    clear hm
    clear hR
    clear hw3
    go_wp2_with fail
    rw [← HW3.out]
    refine region_lr R [true, true, true, true, true, true, false, false, false, false, false] (by kernel_rfl) (by kernel_rfl) (by kernel_rfl) ?_
    simp only [heads, tails]
    repeat (go_big_quiet_step (fail))
    refine wpQuiet_nil ?_
    refine wpL_step ?_
    go_wp2
    obtain ⟨w5, hw5⟩ : ∃ w5, w5 = (w3.alloc (.cells #[.int .u8 x.1, .slice q x.2.length cq] 36)).drew := ⟨_, rfl⟩
    have ht5 : Turns (fun _ => False) w3 w5 := by rw [hw5]; exact ((Turns.refl _ w3).alloc _).drew
    have r5 : Rw w5 (w2.heap.size + 1) [.int .u8 x.1, .slice q x.2.length cq] 36 := by rw [hw5, ← hs3]; exact (Rw.new w3 _ 36).drew
    refine ⟨⟨⟨_, ((Turns.refl _ w3).alloc _).drew⟩, rfl⟩, ?_⟩
    rw [← hw5]
    have HT5 := Calm.hid ht5
    have HR5 := Calm.hid r5
    have hlt5 := r5.lt
    clear ht5 r5
    clear hw5
    refine wpL_step ?_
    refine wpList_append_row rfl (.tmp 19) (.tmp 21) 44 rfl 36 i0 _ 2 32 Try.underlying44 hi0 hz0 hz1 hz2 rfl (by decide) G (fun k => F k ∨ w.heap.size ≤ k) b m c p cs rfl ?_ ?_ ?_ ?_ ⟨w2.heap.size + 1, 0, none⟩ 1 1 [.int .u8 x.1, .slice q x.2.length cq] rfl rfl ?_ ?_ ?_ ?_ ?_
    · exact HN3.out.row_of HM.out |>.turns HT5.out (fun _ _ h => h)
    · rw [HG.out]; exact fun k _ h => h.elim (fun h => .inl h.1) (fun h => .inr h.1)
    · have h1 := HT.out.size; have h2 := HT3.out.size; have h3 := HT5.out.size; exact fun k hk => .inr (by omega)
    · have h3 := HT5.out.size; omega
    · intro j u hu; rw [add_plain, Nat.zero_add]; exact HR5.out.cell hu
    · exact one2 _ _ rfl rfl
    · simp only [maxLen]; omega
    · omega
    intro p4 c4 w4 hrow ht4 hp4
    have HROW := Calm.hid hrow
    have HT4 := Calm.hid ht4
    have HP4 := Calm.hid hp4
    clear hrow ht4 hp4
    have HTR : Hid (Turns R w3 w4) := (HT5.out.mono (fun _ _ h => h.elim)).trans (by rw [HR.out]; exact HT4.out)
    have HRW4 : Hid (Rw w4 b [.int .i64 n, .slice p m c] 59) := (by have := HN3.out.rw_; rw [← HM.out] at this; exact this.turns HTR.out hbR)
    refine wpList_nil ⟨rfl, rfl, .inr ⟨⟨w4, HTR.out⟩, rfl⟩, ?_⟩
    refine wpL_step ?_
    go_wp2
    refine ⟨⟨⟨w4, HTR.out⟩, rfl⟩, ?_⟩
    refine wpL_step ?_
    go_wp2
    refine ⟨⟨⟨w4, HTR.out⟩, rfl⟩, ?_⟩
    refine wpL_step ?_
    have d1 := HRW4.out.cell (i := 1) rfl
    have f1 := HRW4.out.free 1
    go_wp2
    refine wpL_nil ?_
    go_wp2
    go_ret
    have hlt := HRW4.out.lt
    have hgf : ∀ k, k < w.heap.size → G k → F k := by rw [HG.out]; rintro k hk (h | h); exact h.1; omega
    have hm' : ∀ k, G k → F k ∨ w.heap.size ≤ k := by rw [HG.out]; exact fun k h => h.elim (fun h => .inl h.1) (fun h => .inr h.1)
    have h1 := HT.out.size
    have hFb : F b ∨ w.heap.size ≤ b := hm' b HN3.out.own
    refine ⟨rfl, ?_, ?_⟩
    · refine Turns.setCell ?_ (fun h => hFb.elim id (fun h' => by simp at h; omega)) _
      have h2 : Turns (fun k => k < w.heap.size → F k) w w2 := HT.out.mono fun k _ h _ => h.1
      have h3 : Turns (fun k => k < w.heap.size → F k) w w3 := h2.trans (HT3.out.mono fun _ _ h => h.elim)
      refine (h3.trans (HTR.out.mono fun k _ h hk => ?_)).mono fun k hk h => h hk
      rw [HR.out] at h
      exact hgf k hk (HN3.out.row.blk h).1
    · refine (NetP.store HRW4.out hFb HN3.out.most (by rw [HM.out]; simp) HROW.out ?_).net
      have h5 : Turns (rowBlk p) w3 w4 := by rw [← HR.out]; exact HTR.out
      refine LV.kept (LV.append HN3.out.lv (HL3.out.turns HT3.out fun _ _ h => h)) h5 (fun _ _ h => hm' _ h) HP4.out (HT5.out.size)
  · have htk := take_out F b n L i w hN (by unfold inR at h; omega) h64
    have HTK := Calm.hid htk
    have HN := Calm.hid hN
    have HH := Calm.hid h
    clear htk hN hL h
    clear h64
    go_enter Try.func19, Try.ntmps19
    go_wp2_with fail
    refine HTK.out.mono ?_
    rintro e w2 ⟨rfl, hb⟩
    have HB := Calm.hid hb
    clear hb
    unfold noLetter
    go_wp2
    go_ret
    refine ⟨?_, ?_, ?_⟩
    · rw [takeE, if_neg HH.out]; rfl
    · exact ((Turns.of_below HB.out).alloc _)
    · rw [holdL, if_neg HH.out]
      exact (HN.out.turns ((Turns.of_below (R := fun _ => False) HB.out).alloc _) (fun _ _ h => h)).mono fun k _ h => .inl h
end Go.Proofs.Ytfhjpnhchggljaa
