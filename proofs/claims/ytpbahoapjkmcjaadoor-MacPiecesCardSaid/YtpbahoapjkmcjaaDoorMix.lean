/-
  Hash.mix: the message schedule, the 64 rounds and the sum, on the block of a hash.
-/
import Derived.Test.YtpbahoapjkmcjaaDoorRound
namespace Go.Proofs.YtpbahoapjkmcjaaDoor
open Go.RowKit Go.Sha Go.Calm
attribute [local go_sem] u32_wrap_add u32_bits_xor u32_bits_and u32_bits_or u32_bits_not u32_bits_max u32_signed u32_mod_add u32_shr3 u32_shr10

/-- The first loop's relation. -/
def L1 (m : List UInt8) (w : World) (i : Nat) (wr : World) : Prop := Rw wr w.heap.size ((sched m i ++ List.replicate (64 - i) 0).map wv) 54 ∧ Turns (fun _ => False) w wr
theorem L1_start (m : List UInt8) (w : World) (a : Array Value) (ha : a = ((List.replicate 64 (0 : UInt32)).map wv).toArray) : L1 m w 0 (w.alloc (.cells a 54)) := by
  subst ha
  refine ⟨?_, (Turns.refl _ _).alloc _⟩
  have := Rw.new w ((List.replicate 64 (0 : UInt32)).map wv).toArray 54
  simpa [sched] using this
theorem L1_data {m : List UInt8} {w wr : World} {i : Nat} {b o : Nat} {v : Value} (h : L1 m w i wr) (hc : w.cell? ⟨b, o, none⟩ = some v) : wr.cell? ⟨b, o, none⟩ = some v :=
  (h.2.cell (World.block_lt_of_cell? w _ hc) (fun h => h)).trans hc

theorem L1_at {m : List UInt8} {w wr : World} {i : Nat} (h : L1 m w i wr) (hi : i < 64) : wr.cell? ⟨w.heap.size, i, none⟩ = some (.int .u32 0) := by
  refine h.1.cell ?_
  rw [List.getElem?_map, List.getElem?_append_right (by rw [sched_length]; exact Nat.le_refl _), sched_length, Nat.sub_self]
  obtain ⟨k, hk⟩ : ∃ k, 64 - i = k + 1 := ⟨63 - i, by omega⟩
  rw [hk]; rfl
theorem L1_step {m : List UInt8} {w wr : World} {i k : Nat} (h : L1 m w i wr) (hi : i < 64) : L1 m w (i + 1) ((wr.setCell ⟨w.heap.size, i, none⟩ (.int .u32 (U (next m i (sched m i))))).drewN k) := by
  refine ⟨?_, (h.2.setCell (fun hc => absurd hc (Nat.lt_irrefl _)) _).drewN _⟩
  have := h.1.set i (wv (next m i (sched m i)))
  rw [← List.map_set, fill_set (sched_length m i) hi] at this
  exact this

theorem L1_step2 {m : List UInt8} {w wr : World} {i k : Nat} (h : L1 m w i wr) (hi : i < 64) : L1 m w (i + 1) ((wr.drewN k).setCell ⟨w.heap.size, i, none⟩ (.int .u32 (U (next m i (sched m i))))) :=
  L1_step (k := k) h hi
/-- The third loop's: the schedule stands, the eight words go round. -/
structure L3 (m : List UInt8) (s : List UInt32) (w : World) (bk i : Nat) (wr : World) : Prop where
  sch : Rw wr w.heap.size ((sched m 64).map wv) 54
  eig : Rw wr bk ((rounds m s i).map wv) 43
  turns : Turns (fun _ => False) w wr
  lt : w.heap.size < bk
theorem L3_start {m : List UInt8} {s : List UInt32} {w wr : World} {a : Array Value} (h : L1 m w 64 wr) (ha : a = (s.map wv).toArray) : L3 m s w wr.heap.size 0 (wr.alloc (.cells a 43)) := by
  subst ha
  have h1 := h.1
  simp only [Nat.sub_self, List.replicate_zero, List.append_nil] at h1
  exact ⟨h1.alloc _, by simpa [rounds] using Rw.new wr (s.map wv).toArray 43, h.2.alloc _, h1.lt⟩
theorem L3_step {m : List UInt8} {s : List UInt32} {w wr w' : World} {bk i : Nat} (h : L3 m s w bk i wr) (hr : Rw w' bk ((rounds m s (i + 1)).map wv) 43) (ht : Turns (· = bk) wr w') : L3 m s w bk (i + 1) w' :=
  ⟨h.sch.turns ht (Nat.ne_of_lt h.lt), hr, h.turns.step ht (fun b hb e => by have := h.lt; omega), h.lt⟩
theorem round_any' (i : Nat) (hi : i < 64) (m : List UInt8) (s : List UInt32) (hs : s.length = 8) (w wr : World) (bk : Nat) (h : L3 m s w bk i wr) (hK : wr.cell? ⟨0, i, none⟩ = some (wv (K i))) :
    Calls Tryd.prog 36 #[.int .i64 (i : Int), .pointer (some ⟨bk, 0, none⟩), .pointer (some ⟨w.heap.size, 0, none⟩)] wr fun en w' => en = .returned (.tuple #[]) ∧ L3 m s w bk (i + 1) w' := by
  obtain ⟨a, b, c, d, e, f, g, x, hr⟩ := eight (rounds_length m hs i)
  have h2 := h.eig
  rw [hr] at h2
  refine (round_any 43 i hi bk w.heap.size a b c d e f g x (K i) ((sched m 64).getD i 0) wr h2 hK (h.sch.cell ?_)).mono ?_
  · have : i < (sched m 64).length := by rw [sched_length]; exact hi
    simp [this]
  · rintro en w' ⟨rfl, h3, h4⟩
    refine ⟨rfl, L3_step h ?_ h4⟩
    have : rounds m s (i + 1) = round (K i) ((sched m 64).getD i 0) (rounds m s i) := rfl
    rw [this, hr]
    exact h3
/-- The fourth's: the words are added, one by one. -/
structure L4 (m : List UInt8) (s : List UInt32) (hb : Nat) (l n : Value) (w : World) (bk i : Nat) (wr : World) : Prop where
  hash : Rw wr hb ((adds s (rounds m s 64) i).map wv ++ [l, n]) 49
  eig : Rw wr bk ((rounds m s 64).map wv) 43
  turns : Turns (· = hb) w wr
  lt : w.heap.size < bk
theorem L4_step {m : List UInt8} {s : List UInt32} {hb : Nat} {l n : Value} {w wr : World} {bk i k : Nat} (hs : s.length = 8) (hi : i < 8) (hl : hb < w.heap.size) (h : L4 m s hb l n w bk i wr) :
    L4 m s hb l n w bk (i + 1) ((wr.setCell ⟨hb, i, none⟩ (.int .u32 (U (s.getD i 0 + (rounds m s 64).getD i 0)))).drewN k) := by
  refine ⟨?_, (h.eig.set_other (by have := h.lt; simp; omega) _).drewN _, (h.turns.setCell (fun _ => rfl) _).drewN _, h.lt⟩
  have := h.hash.set i (wv (s.getD i 0 + (rounds m s 64).getD i 0))
  have hl8 := adds_length hs (rounds_length m hs 64) (i := i) (by omega)
  rw [List.set_append_left _ _ (by simp [hl8]; omega), ← List.map_set, adds_set hs (rounds_length m hs 64) hi] at this
  exact this
theorem L4_hash {m : List UInt8} {s : List UInt32} {hb : Nat} {l n : Value} {w wr : World} {bk i : Nat} (hs : s.length = 8) (hi : i < 8) (h : L4 m s hb l n w bk i wr) : wr.cell? ⟨hb, i, none⟩ = some (wv (s.getD i 0)) := by
  refine h.hash.cell ?_
  have hl8 := adds_length hs (rounds_length m hs 64) (i := i) (by omega)
  have hg := adds_getD hs (rounds_length m hs 64) hi
  rw [List.getElem?_append_left (by simp [hl8]; omega), List.getElem?_map, ← hg]
  have : i < (adds s (rounds m s 64) i).length := by omega
  simp [this]
theorem L4_eig {m : List UInt8} {s : List UInt32} {hb : Nat} {l n : Value} {w wr : World} {bk i : Nat} (hs : s.length = 8) (hi : i < 8) (h : L4 m s hb l n w bk i wr) : wr.cell? ⟨bk, i, none⟩ = some (wv ((rounds m s 64).getD i 0)) := by
  refine h.eig.cell ?_
  have : i < (rounds m s 64).length := by rw [rounds_length m hs]; omega
  simp [this]
theorem L1_get {m : List UInt8} {w wr : World} {i j : Nat} (h : L1 m w i wr) (hj : j < i) : wr.cell? ⟨w.heap.size, j, none⟩ = some (wv ((sched m i).getD j 0)) := by
  refine h.1.cell ?_
  rw [List.getElem?_map, fill_get (sched_length m i) hj]; rfl

set_option maxRecDepth 100000 in
set_option maxHeartbeats 1000000 in
theorem mix_any (hb bb off cap : Nat) (s : List UInt32) (hs : s.length = 8) (m : List UInt8) (hm : m.length = 64) (l n : Value) (w : World)
    (hh : Rw w hb (s.map wv ++ [l, n]) 49) (_hcap : 64 ≤ cap) (hc : ∀ j, j < 64 → w.cell? ⟨bb, off + j, none⟩ = some (bv (m.getD j 0)))
    (hK : ∀ i, i < 64 → w.cell? ⟨0, i, none⟩ = some (wv (K i))) :
    Calls Tryd.prog 30 #[.pointer (some ⟨hb, 0, none⟩), .slice (some ⟨bb, off, none⟩) 64 cap] w fun en w' =>
      en = .returned (.tuple #[]) ∧ Rw w' hb ((mix s m).map wv ++ [l, n]) 49 ∧ Turns (· = hb) w w' := by
  have HC := Calm.hid hc
  have HK := Calm.hid hK
  have HS := Calm.hid hs
  have HM := Calm.hid hm
  clear hc hK hs hm
  go_enter Tryd.func30, Tryd.ntmps30
  go_wp2
  go_loopw [13] (fun c wr => ∃ i : Nat, i ≤ 16 ∧ c = .int .i64 i ∧ L1 m w i wr) (fun c _ => 16 - (intOf c).toNat)
  case atStart => exact ⟨0, by omega, rfl, L1_start m w _ (by rfl)⟩
  case round =>
    obtain ⟨i, hi, rfl, hL⟩ := hrel
    by_cases hlt : i < 16
    · obtain ⟨b0, hb0⟩ : ∃ b, b = m.getD (4 * i) 0 := ⟨_, rfl⟩
      obtain ⟨b1, hb1⟩ : ∃ b, b = m.getD (4 * i + 1) 0 := ⟨_, rfl⟩
      obtain ⟨b2, hb2⟩ : ∃ b, b = m.getD (4 * i + 2) 0 := ⟨_, rfl⟩
      obtain ⟨b3, hb3⟩ : ∃ b, b = m.getD (4 * i + 3) 0 := ⟨_, rfl⟩
      have c0 := L1_data hL (HC.out (4 * i) (by omega))
      have c1 := L1_data hL (HC.out (4 * i + 1) (by omega))
      have c2 := L1_data hL (HC.out (4 * i + 2) (by omega))
      have c3 := L1_data hL (HC.out (4 * i + 3) (by omega))
      rw [← hb0] at c0
      rw [← hb1] at c1
      rw [← hb2] at c2
      rw [← hb3] at c3
      have E : Hid (next m i (sched m i) = word b0 b1 b2 b3) := by unfold next; rw [if_pos hlt, hb0, hb1, hb2, hb3]; rfl
      clear hb0 hb1 hb2 hb3
      have cB := L1_at hL (by omega)
      have fB := hL.1.free i
      have hww := word_walk b0 b1 b2 b3
      go_wp2
      refine Calm.region_d 35 (by kernel_rfl) (by kernel_rfl) ?_
      simp only [List.take_succ_cons, List.take_zero, List.drop_succ_cons, List.drop_zero]
      repeat (go_big_quiet_step (fail))
      refine wpQuiet_nil ?_
      rintro _ ⟨nq, rfl⟩
      go_wp2
      go_roundw
      case rel => exact ⟨i + 1, by omega, by go_num, by rw [← E.out]; exact (L1_step hL (by omega))⟩
      case measure => simp [intOf]; omega
    · have H16 : Hid (i = 16) := show i = 16 by omega
      have hL16 : L1 m w 16 wr := by rw [← H16.out]; exact hL
      clear hL
      go_wp2
      go_loopw [6] (fun c wr => ∃ i : Nat, 16 ≤ i ∧ i ≤ 64 ∧ c = .int .i64 i ∧ L1 m w i wr) (fun c _ => 64 - (intOf c).toNat)
      case atStart => exact ⟨16, by omega, by omega, rfl, hL16⟩
      case round =>
        clear hL16
        obtain ⟨i, hi16, hi, rfl, hL⟩ := hrel
        by_cases hlt : i < 64
        · obtain ⟨x0, hx0⟩ : ∃ b, b = (sched m i).getD (i - 16) 0 := ⟨_, rfl⟩
          obtain ⟨x1, hx1⟩ : ∃ b, b = (sched m i).getD (i - 7) 0 := ⟨_, rfl⟩
          obtain ⟨x2, hx2⟩ : ∃ b, b = (sched m i).getD (i - 15) 0 := ⟨_, rfl⟩
          obtain ⟨x3, hx3⟩ : ∃ b, b = (sched m i).getD (i - 2) 0 := ⟨_, rfl⟩
          have c0 := L1_get hL (j := i - 16) (by omega)
          have c1 := L1_get hL (j := i - 7) (by omega)
          have c2 := L1_get hL (j := i - 15) (by omega)
          have c3 := L1_get hL (j := i - 2) (by omega)
          rw [← hx0] at c0
          rw [← hx1] at c1
          rw [← hx2] at c2
          rw [← hx3] at c3
          have E : Hid (next m i (sched m i) = x0 + x1 + (rot x2 7 ^^^ rot x2 18 ^^^ shr x2 3) + (rot x3 17 ^^^ rot x3 19 ^^^ shr x3 10)) := by unfold next; rw [if_neg (by omega), hx0, hx1, hx2, hx3]; rfl
          clear hx0 hx1 hx2 hx3
          have cB := L1_at hL (by omega)
          have fB := hL.1.free i
          go_wp2
          refine Calm.region_d 10 (by kernel_rfl) (by kernel_rfl) ?_
          simp only [List.take_succ_cons, List.take_zero, List.drop_succ_cons, List.drop_zero]
          repeat (go_big_quiet_step (fail))
          refine wpQuiet_nil ?_
          rintro _ ⟨nq, rfl⟩
          refine wpList_nil ?_
          go_wp2
          refine Calm.region_d 29 (by kernel_rfl) (by kernel_rfl) ?_
          simp only [List.take_succ_cons, List.take_zero, List.drop_succ_cons, List.drop_zero]
          repeat (go_big_quiet_step ((go_at_call 35; refine (turn_any _ _ (by decide) (by decide) _).mono ?_; rintro e1 w1 ⟨rfl, m1, rfl⟩; exact ⟨rfl, _, by rw [World.drewN_drewN, Nat.add_assoc]⟩)))
          refine wpQuiet_nil ?_
          rintro _ ⟨nq2, rfl⟩
          go_wp2
          go_roundw
          case rel => exact ⟨i + 1, by omega, by omega, by go_num, by rw [← E.out]; exact (L1_step2 hL (by omega))⟩
          case measure => simp [intOf]; omega
        · have H64 : Hid (i = 64) := show i = 64 by omega
          have hL64 : L1 m w 64 wr := by rw [← H64.out]; exact hL
          clear hL
          obtain ⟨wo, rfl⟩ : ∃ wo : World, wo = wr := ⟨_, rfl⟩
          have hhr : Rw wo hb (s.map wv ++ [l, n]) 49 := hh.turns hL64.2 (fun h => h)
          obtain ⟨x0, x1, x2, x3, x4, x5, x6, x7, hse⟩ := eight HS.out
          have HSE := Calm.hid hse
          have c0 : wo.cell? ⟨hb, 0, none⟩ = some (wv x0) := hhr.cell (by rw [hse]; rfl)
          have c1 : wo.cell? ⟨hb, 1, none⟩ = some (wv x1) := hhr.cell (by rw [hse]; rfl)
          have c2 : wo.cell? ⟨hb, 2, none⟩ = some (wv x2) := hhr.cell (by rw [hse]; rfl)
          have c3 : wo.cell? ⟨hb, 3, none⟩ = some (wv x3) := hhr.cell (by rw [hse]; rfl)
          have c4 : wo.cell? ⟨hb, 4, none⟩ = some (wv x4) := hhr.cell (by rw [hse]; rfl)
          have c5 : wo.cell? ⟨hb, 5, none⟩ = some (wv x5) := hhr.cell (by rw [hse]; rfl)
          have c6 : wo.cell? ⟨hb, 6, none⟩ = some (wv x6) := hhr.cell (by rw [hse]; rfl)
          have c7 : wo.cell? ⟨hb, 7, none⟩ = some (wv x7) := hhr.cell (by rw [hse]; rfl)
          clear hse
          go_wp2
          clear c0 c1 c2 c3 c4 c5 c6 c7
          go_loopw [98] (fun c wr => ∃ i : Nat, i ≤ 64 ∧ c = .int .i64 i ∧ L3 m s w wo.heap.size i wr) (fun c _ => 64 - (intOf c).toNat)
          case atStart => exact ⟨0, by omega, rfl, L3_start hL64 (by rw [HSE.out]; rfl)⟩
          case round =>
            clear hL64 hhr
            obtain ⟨i, hi, rfl, hL⟩ := hrel
            by_cases hlt : i < 64
            · have hk : wr.cell? ⟨0, i, none⟩ = some (wv (K i)) := (hL.turns.cell (World.block_lt_of_cell? w _ (HK.out i hlt)) (fun h => h)).trans (HK.out i hlt)
              go_wp2_with fail
              refine (round_any' i hlt m s HS.out w wr _ hL hk).mono ?_
              rintro en w' ⟨rfl, hL'⟩
              clear hL hk
              go_wp2
              go_roundw
              case rel => exact ⟨i + 1, by omega, by go_num, hL'⟩
              case measure => simp [intOf]; omega
            · have H64' : Hid (i = 64) := show i = 64 by omega
              have hL64 : L3 m s w wo.heap.size 64 wr := by rw [← H64'.out]; exact hL
              clear hL
              go_wp2
              have h4 : L4 m s hb l n w wo.heap.size 0 wr := ⟨by rw [adds_zero]; exact hh.turns hL64.turns (fun h => h), hL64.eig, hL64.turns.mono (fun _ _ h => h.elim), hL64.lt⟩
              clear hL64
              go_loopw [105] (fun c wr => ∃ i : Nat, i ≤ 8 ∧ c = .int .i64 i ∧ L4 m s hb l n w wo.heap.size i wr) (fun c _ => 8 - (intOf c).toNat)
              case atStart => exact ⟨0, by omega, rfl, h4⟩
              case round =>
                clear h4
                obtain ⟨i, hi, rfl, hL⟩ := hrel
                by_cases hlt : i < 8
                · obtain ⟨p, hp⟩ : ∃ p, p = s.getD i 0 := ⟨_, rfl⟩
                  obtain ⟨q, hq⟩ : ∃ q, q = (rounds m s 64).getD i 0 := ⟨_, rfl⟩
                  have c0 : wr.cell? ⟨hb, i, none⟩ = some (wv p) := by rw [hp]; exact L4_hash HS.out hlt hL
                  have c1 : wr.cell? ⟨wo.heap.size, i, none⟩ = some (wv q) := by rw [hq]; exact L4_eig HS.out hlt hL
                  have f0 := hL.hash.free i
                  have HP := Calm.hid hp
                  have HQ := Calm.hid hq
                  clear hp hq
                  go_wp2
                  refine Calm.region_d 13 (by kernel_rfl) (by kernel_rfl) ?_
                  simp only [List.take_succ_cons, List.take_zero, List.drop_succ_cons, List.drop_zero]
                  repeat (go_big_quiet_step (fail))
                  refine wpQuiet_nil ?_
                  rintro _ ⟨nq, rfl⟩
                  go_wp2
                  go_roundw
                  case rel => exact ⟨i + 1, by omega, by go_num, by rw [HP.out, HQ.out]; exact L4_step (k := nq) HS.out hlt hh.lt hL⟩
                  case measure => simp [intOf]; omega
                · have H8 : Hid (i = 8) := show i = 8 by omega
                  have hL8 : L4 m s hb l n w wo.heap.size 8 wr := by rw [← H8.out]; exact hL
                  clear hL
                  go_wp2
                  go_end0
                  exact ⟨rfl, by rw [← adds_all HS.out]; exact hL8.hash, hL8.turns⟩
end Go.Proofs.YtpbahoapjkmcjaaDoor
