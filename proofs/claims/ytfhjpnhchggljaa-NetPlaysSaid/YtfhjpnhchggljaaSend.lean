/-
  Send.
-/
import Derived.Test.YtfhjpnhchggljaaLetW
namespace Go.Proofs.Ytfhjpnhchggljaa
open Go.RowKit Go.Sha Go.Calm
attribute [local go_sem] Oper.semAt_some
theorem Try.info36 : (Try.prog.info? 36).map (fun i => (i.zero, i.size, i.bytes)) = some (some (.agg #[.int .u8 0, .slice none 0 0]), 2, 32) := by kernel_rfl
/-- A world in which of what w holds only the blocks that R names have turned. -/
structure KeptR (R : Nat → Prop) (w : World) where
  world : World
  turns : Turns R w world
instance (R : Nat → Prop) (w : World) : Nonempty (KeptR R w) := ⟨⟨w, Turns.refl _ _⟩⟩
theorem region_lr {P : Program} {id : Nat} {Q : Exit → Act → World → Prop} {w : World} {a : Act} {l : List Oper} (R : Nat → Prop) (fs : List Bool) (hm : P.follows .mixedOrders = true) (hB : okB2 l.toArray fs = true) (hL : lastB l.toArray fs = true)
    (h : wpQuiet P l.toArray (fun w' => ∃ k : KeptR R w, w' = k.world) (fun a' => wpL P l.toArray (fun w' => ∃ k : KeptR R w, w' = k.world) Q (tails fs l) a' w.drew) (heads fs l) a) : (Code.region id l.toArray true).wp P Q a w :=
  region_l fs _ hm hB hL ⟨⟨_, (Turns.refl _ _).drew⟩, rfl⟩ h
set_option maxRecDepth 100000 in
set_option maxHeartbeats 1000000 in
theorem send_no (b n m c : Nat) (p : Option Addr) (to : Nat) (q : Option Addr) (k cq : Nat) (w : World) (hr : Rw w b [.int .i64 n, .slice p m c] 59) (hto : to < 256) (e : Nat)
    (he : (n ≤ to ∧ e = 1) ∨ (to < n ∧ 4096 ≤ m ∧ e = 3) ∨ (to < n ∧ m < 4096 ∧ 65536 < k ∧ e = 2)) :
    Calls Try.prog 11 #[.pointer (some ⟨b, 0, none⟩), .int .u8 to, .slice q k cq] w fun en w' => en = .returned (.int .i64 e) ∧ w' = w := by
  have c0 := hr.cell (i := 0) rfl
  have c1 := hr.cell (i := 1) rfl
  clear hr
  rcases he with ⟨h1, rfl⟩ | ⟨h1, h2, rfl⟩ | ⟨h1, h2, h3, rfl⟩
  all_goals
    go_enter Try.func11, Try.ntmps11
    go_wp2
    go_ret
    exact ⟨rfl, rfl⟩
set_option maxRecDepth 100000 in
set_option maxHeartbeats 1000000 in
theorem send_yes (F : Nat → Prop) (b n c : Nat) (p : Option Addr) (cs : List Value) (L : List (Nat × List UInt8)) (to : Nat) (q : Option Addr) (k cq : Nat) (w : World) (hN : NetP w F b n L p c cs) (hto : to < 256)
    (h1 : to < n) (h2 : L.length < 4096) (h3 : k ≤ 65536) (bs : List UInt8) (hq : BytesOf w q k cq bs) :
    Calls Try.prog 11 #[.pointer (some ⟨b, 0, none⟩), .int .u8 to, .slice q k cq] w fun en w' => en = .returned (.int .i64 0) ∧ Turns F w w' ∧ Net w' (fun x => F x ∨ w.heap.size ≤ x) b n (L ++ [(to, bs)]) := by
  obtain ⟨i0, hi0, hz0, hz1, hz2⟩ := info_parts Try.info36
  obtain ⟨m, hm⟩ : ∃ m, m = L.length := ⟨_, rfl⟩
  have hr := hN.rw_
  rw [← hm] at hr h2
  have c0 := hr.cell (i := 0) rfl
  have c1 := hr.cell (i := 1) rfl
  have hb := hr.lt
  have hbs : bs.length = k := hq.len
  have HQ : Hid (BytesOf w.drew q k cq bs) := hq.drewN 1
  have HN := Calm.hid hN
  have HM := Calm.hid hm
  have HBS := Calm.hid hbs
  clear hq hN hbs
  clear hr hm
  go_enter Try.func11, Try.ntmps11
  obtain ⟨R, hR⟩ : ∃ R : Nat → Prop, R = rowBlk p := ⟨_, rfl⟩
  have HR := Calm.hid hR
  have hbR : ¬ R b := by subst hR; exact fun h => (HN.out.row.blk h).2.1 rfl
  clear hR
  have k1 : ∀ q : KeptR R w, q.world.cell? ⟨b, 1, none⟩ = some (.slice p m c) := fun q => (q.turns.cell hb hbR).trans c1
  go_wp2_with fail
  have hdn : decide (n ≤ to) = false := by simp; omega
  simp only [hdn]
  refine region_lr R [true, true, true, true, true, true, true, false, false, false, false, false, false, false] (by kernel_rfl) (by kernel_rfl) (by kernel_rfl) ?_
  simp only [heads, tails]
  repeat (go_big_quiet_step (fail))
  refine wpQuiet_nil ?_
  refine wpL_step ?_
  go_wp2_with fail
  refine (clone_any q k cq bs _ HQ.out h3).mono ?_
  rintro e w2 ⟨q2, cq2, rfl, hb2, hq2, hbl⟩
  have HB2 := Calm.hid hb2
  have HBL := Calm.hid hbl
  have HQ2 := Calm.hid hq2
  clear hb2 hbl hq2
  go_wp2
  have HTU : Hid (Turns R w w2) := (Turns.refl R w).drew.trans ((Turns.of_below (R := R) HBL.out))
  refine ⟨⟨⟨w2, HTU.out⟩, rfl⟩, ?_⟩
  refine wpL_step ?_
  go_wp2
  refine ⟨⟨⟨w2, HTU.out⟩, rfl⟩, ?_⟩
  refine wpL_step ?_
  go_wp2
  have HT3 := HTU.out.alloc (.cells #[.int .u8 to, .slice q2 k cq2] 36)
  obtain ⟨w3, hw3⟩ : ∃ w3, w3 = w2.alloc (.cells #[.int .u8 to, .slice q2 k cq2] 36) := ⟨_, rfl⟩
  have HR3 : Rw w3 w2.heap.size [.int .u8 to, .slice q2 k cq2] 36 := by rw [hw3]; exact Rw.new w2 _ 36
  have HT0 : Hid (Turns (fun _ => False) w w3) := by rw [hw3]; exact ((Turns.refl _ w).drew.trans (Turns.of_below HBL.out)).alloc _
  have HR3 := Calm.hid HR3
  have HQ3 : Hid (BytesOf w3 q2 k cq2 bs) := by rw [hw3]; exact HB2.out.alloc _
  have hlt3 : w2.heap.size < w3.heap.size := HR3.out.lt
  rw [← hw3] at HT3
  refine ⟨⟨⟨_, HTU.out.alloc _⟩, rfl⟩, ?_⟩
  rw [← hw3]
  refine wpL_step ?_
  refine wpList_append_row rfl (.tmp 33) (.tmp 38) 44 rfl 36 i0 _ 2 32 Try.underlying44 hi0 hz0 hz1 hz2 rfl (by decide) F (fun x => F x ∨ w.heap.size ≤ x) b m c p cs rfl ?_ ?_ ?_ ?_ ⟨w2.heap.size, 0, none⟩ 1 1 [.int .u8 to, .slice q2 k cq2] rfl rfl ?_ ?_ ?_ ?_ ?_
  · exact HN.out.row_of HM.out |>.turns HT0.out (fun _ _ h => h)
  · exact fun k _ h => .inl h
  · have := HT0.out.size; exact fun k hk => .inr (by omega)
  · have := HT0.out.size; omega
  · intro j u hu; rw [add_plain, Nat.zero_add]; exact HR3.out.cell hu
  · intro u hu; simp at hu; rcases hu with rfl | rfl <;> rfl
  · simp only [maxLen]; omega
  · omega
  intro p4 c4 w4 hrow ht4 hp4
  have HROW := Calm.hid hrow
  have HT4 := Calm.hid ht4
  have HP4 := Calm.hid hp4
  clear hrow ht4 hp4
  have HTR : Hid (Turns R w w4) := (HT0.out.mono (fun _ _ h => h.elim)).trans (by rw [HR.out]; exact HT4.out)
  have HRW4 : Hid (Rw w4 b [.int .i64 n, .slice p m c] 59) := (by have := HN.out.rw_; rw [← HM.out] at this; exact this.turns HTR.out hbR)
  refine wpList_nil ⟨rfl, rfl, .inr ⟨⟨w4, HTR.out⟩, rfl⟩, ?_⟩
  refine wpL_step ?_
  go_wp2
  refine ⟨⟨⟨w4, HTR.out⟩, rfl⟩, ?_⟩
  refine wpL_step ?_
  go_wp2
  refine ⟨⟨⟨w4, HTR.out⟩, rfl⟩, ?_⟩
  refine wpL_step ?_
  have d1 := HRW4.out.cell (i := 1) rfl
  have f1 := HRW4.out.free 1
  go_wp2
  refine wpL_nil ?_
  go_wp2
  go_ret
  have hlt := HRW4.out.lt
  refine ⟨rfl, ?_, ?_⟩
  · refine (HTR.out.mono fun x _ h => ?_).setCell (fun _ => HN.out.own) _
    rw [HR.out] at h
    exact (HN.out.row.blk h).1
  · have hs3 := HT0.out.size
    refine (NetP.store HRW4.out (.inl HN.out.own) HN.out.most (by rw [HM.out]; simp) HROW.out ?_).net
    refine LV.append (LV.kept HN.out.lv (by rw [← HR.out]; exact HTR.out) (fun _ _ h => .inl h) HP4.out hs3) ?_
    have e := HBS.out
    subst e
    refine LV.one (x := (to, bs)) hto h3 (HQ3.out.turns HT4.out fun ad ha _ hr => ?_) fun ad ha h0 => ?_
    · have := (HN.out.row.blk hr).2.2
      have := HQ2.out ad ha
      simp at this
      omega
    · have h5 := HQ2.out ad ha
      have h6 : ad.block < w3.heap.size := by
        have := World.block_lt_of_cell? w3 _ (HQ3.out.at_ ad ha 0 h0)
        have e : (ad.add 0).block = ad.block := by unfold Addr.add; split <;> rfl
        rwa [e] at this
      simp at h5
      refine ⟨.inr h5, by omega, fun hr => ?_⟩
      have := (HN.out.row.blk (HP4.out _ h6 hr)).2.2
      omega
def sendE (n : Nat) (L : List (Nat × List UInt8)) (to : Nat) (bs : List UInt8) : Nat := if n ≤ to then 1 else if 4096 ≤ L.length then 3 else if 65536 < bs.length then 2 else 0
def sendL (n : Nat) (L : List (Nat × List UInt8)) (to : Nat) (bs : List UInt8) : List (Nat × List UInt8) := if sendE n L to bs = 0 then L ++ [(to, bs)] else L
theorem send_any (F : Nat → Prop) (b n : Nat) (L : List (Nat × List UInt8)) (to : Nat) (q : Option Addr) (k cq : Nat) (w : World) (hN : Net w F b n L) (hto : to < 256) (bs : List UInt8) (hq : BytesOf w q k cq bs) :
    Calls Try.prog 11 #[.pointer (some ⟨b, 0, none⟩), .int .u8 to, .slice q k cq] w fun en w' => en = .returned (.int .i64 (sendE n L to bs : Nat)) ∧ Turns F w w' ∧ Net w' (fun x => F x ∨ w.heap.size ≤ x) b n (sendL n L to bs) := by
  obtain ⟨p, c, cs, hN⟩ := hN
  have hk := hq.len
  have hno : ∀ e, (n ≤ to ∧ e = 1) ∨ (to < n ∧ 4096 ≤ L.length ∧ e = 3) ∨ (to < n ∧ L.length < 4096 ∧ 65536 < k ∧ e = 2) → sendE n L to bs = e →
      Calls Try.prog 11 #[.pointer (some ⟨b, 0, none⟩), .int .u8 to, .slice q k cq] w fun en w' => en = .returned (.int .i64 (sendE n L to bs : Nat)) ∧ Turns F w w' ∧ Net w' (fun x => F x ∨ w.heap.size ≤ x) b n (sendL n L to bs) := by
    intro e he hs
    refine (send_no b n L.length c p to q k cq w hN.rw_ hto e he).mono ?_
    rintro en w' ⟨rfl, rfl⟩
    have hne : e ≠ 0 := by omega
    rw [sendL, hs, if_neg hne]
    exact ⟨rfl, Turns.refl _ _, (hN.mono fun _ _ h => .inl h).net⟩
  by_cases h1 : n ≤ to
  · exact hno 1 (.inl ⟨h1, rfl⟩) (by simp [sendE, h1])
  by_cases h2 : 4096 ≤ L.length
  · exact hno 3 (.inr (.inl ⟨by omega, h2, rfl⟩)) (by simp [sendE, h1, h2])
  by_cases h3 : 65536 < k
  · exact hno 2 (.inr (.inr ⟨by omega, by omega, h3, rfl⟩)) (by rw [← hk] at h3; simp [sendE, h1, h2, h3])
  · have e : sendE n L to bs = 0 := by rw [← hk] at h3; simp [sendE, h1, h2, h3]
    rw [sendL, e, if_pos rfl]
    exact send_yes F b n c p cs L to q k cq w hN hto (by omega) (by omega) (by omega) bs hq
end Go.Proofs.Ytfhjpnhchggljaa
