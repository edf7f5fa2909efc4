/-
  mac.New: what a pen holds; its Write and its Sum; mac.Of.
-/
import Derived.Test.YtpbahoapjkmcjaaDoorKeyBlk
namespace Go.Proofs.YtpbahoapjkmcjaaDoor
open Go.RowKit Go.Sha Go.Calm

theorem keyBlock_n (xi : Int) (x : UInt8) (hx : xi = B8 x) (tb : Nat) (key : List UInt8) (hk : key.length ≤ 64) (n : Nat) (p : Option Addr) (c : Nat) (w : World) (hc : Rw w tb [.slice p n c] 22) (hb : BytesOf w p n c key) :
    Calls Tryd.prog 31 #[.int .u8 xi, .pointer (some ⟨tb, 0, none⟩)] w fun en w' => en = .returned (.slice (some ⟨w.heap.size, 0, none⟩) 64 64) ∧ Rw w' w.heap.size ((xorB x (pad64 key)).map bv) 5 ∧ Below w.heap.size w w' := by
  obtain rfl := hb.len
  subst hx
  exact keyBlock_any x tb key hk p c w (hc.cell rfl) hb
/-- A world in which of what w holds only the blocks that R names have turned. -/
structure KeptR (R : Nat → Prop) (w : World) where
  world : World
  turns : Turns R w world
instance (R : Nat → Prop) (w : World) : Nonempty (KeptR R w) := ⟨⟨w, Turns.refl _ _⟩⟩
theorem region_sr {P : Program} {id : Nat} {Q : Exit → Act → World → Prop} {w : World} {a : Act} {l : List Oper} (R : Nat → Prop) (fs : List Bool) (hm : P.follows .mixedOrders = true) (hB : okB2 l.toArray fs = true)
    (h : wpQuiet P l.toArray (fun w' => ∃ k : KeptR R w, w' = k.world) (fun a' => wpC P l.toArray (fun w' => ∃ k : KeptR R w, w' = k.world) Q (tails fs l) a' w.drew) (heads fs l) a) : (Code.region id l.toArray true).wp P Q a w :=
  region_s fs _ hm hB ⟨⟨_, (Turns.refl _ _).drew⟩, rfl⟩ h
/-- What a pen holds: its hash, and the outer block. -/
structure IsPen (w : World) (base pb hb ob : Nat) (left : Value) (o m : List UInt8) : Prop where
  row : Rw w pb [.pointer (some ⟨hb, 0, none⟩), .slice (some ⟨ob, 0, none⟩) 64 64] 51
  hash : IsHash w hb left m
  out : Rw w ob (o.map bv) 5
  len : o.length = 64
  pb_ : base ≤ pb
  hb_ : base ≤ hb
  ob_ : base ≤ ob
  left_ : ∀ k, left.ownBlock = some k → base ≤ k
  ph : pb ≠ hb
  po : pb ≠ ob
  ho : hb ≠ ob
  pl : left.ownBlock ≠ some pb
  ol : left.ownBlock ≠ some ob
theorem rw_bytes {w : World} {g : Nat} {l : List UInt8} {n c : Nat} {t : TypeId} (h : Rw w g (l.map bv) t) (hn : l.length = n) (hc : n ≤ c) (hm : c ≤ maxLen) : BytesOf w (some ⟨g, 0, none⟩) n c l :=
  ⟨hn, hc, hm, fun h => by simp at h, fun ad had j hj => by
    simp at had; subst had
    rw [add_plain, Nat.zero_add]
    exact h.cell (by simp [show j < l.length by omega])⟩

set_option maxRecDepth 100000 in
set_option maxHeartbeats 1000000 in
theorem penNew_any (key : List UInt8) (p : Option Addr) (c : Nat) (w : World) (hb : BytesOf w p key.length c key) (hlen : key.length < 35184372088832) (hK : HasK w) :
    Calls Tryd.prog 25 #[.slice p key.length c] w fun en w' => (∃ pb hb ob left, en = .returned (.pointer (some ⟨pb, 0, none⟩)) ∧ IsPen w' w.heap.size pb hb ob left (xorB 92 (pad64 (short key))) (xorB 54 (pad64 (short key)))) ∧ Below w.heap.size w w' := by
  have HB := Calm.hid hb
  have HK := Calm.hid hK
  clear hb hK
  by_cases h64 : 64 < key.length
  · have hd : decide (64 < (key.length : Int)) = true := by simp; omega
    obtain ⟨kk, hkk⟩ : ∃ kk, kk = digest key := ⟨_, rfl⟩
    have hsh : short key = kk := by unfold short; rw [if_pos (by omega), hkk]
    rw [hsh]
    have HKL : Hid (kk.length ≤ 64) := show kk.length ≤ 64 by rw [hkk, digest_length]; decide
    have HKL32 : Hid (kk.length = 32) := show kk.length = 32 by rw [hkk, digest_length]
    have HKK := Calm.hid hkk
    clear hsh hkk
    have hwb : Below w.heap.size w (w.alloc (.cells #[.slice p key.length c] 22)) := (Below.refl _ _).alloc (Nat.le_refl _) _
    have hbb : Rw (w.alloc (.cells #[.slice p key.length c] 22)) w.heap.size [.slice p key.length c] 22 := Rw.new w _ 22
    have hyb : BytesOf (w.alloc (.cells #[.slice p key.length c] 22)) p key.length c key := HB.out.below hwb
    have HWB := Calm.hid hwb
    have HBB := Calm.hid hbb
    have HYB := Calm.hid hyb
    clear hwb hbb hyb
    go_enter Tryd.func25, Tryd.ntmps25
    go_wp2_with fail
    refine (of_any key p c _ HYB.out hlen (HK.out.below HWB.out)).mono ?_
    rintro en w6 ⟨rfl, hb6⟩
    rw [← HKK.out]
    have HB6 := Calm.hid (HWB.out.trans (hb6.mono HWB.out.size))
    have HBB6 := Calm.hid (HBB.out.below hb6)
    clear hb6
    have HZ6 : Hid (Rw (w6.alloc (.cells #[.int .u8 0, .int .u8 0, .int .u8 0, .int .u8 0, .int .u8 0, .int .u8 0, .int .u8 0, .int .u8 0, .int .u8 0, .int .u8 0, .int .u8 0, .int .u8 0, .int .u8 0, .int .u8 0, .int .u8 0, .int .u8 0, .int .u8 0, .int .u8 0, .int .u8 0, .int .u8 0, .int .u8 0, .int .u8 0, .int .u8 0, .int .u8 0, .int .u8 0, .int .u8 0, .int .u8 0, .int .u8 0, .int .u8 0, .int .u8 0, .int .u8 0, .int .u8 0] 25)) w6.heap.size (zero32.map bv) 25) := Rw.new w6 _ 25
    go_wp2_with (refine wpList_store_rw rfl 25 (.tmp 3) (.tmp 10) rfl w6.heap.size (kk.map bv) rfl rfl 25 _ HZ6.out (by rw [List.length_map, HKL32.out]; kernel_rfl) (by rw [List.length_map, List.length_map, HKL32.out]; rfl) (BytesOf.one _) ?_; intro w7 hr7 ht7; have HR7 := Calm.hid hr7; have HBB7 := Calm.hid (HBB6.out.below (new_stored ht7)); have HB7 := Calm.hid (HB6.out.trans ((new_stored ht7).mono HB6.out.size)); have hcb := (HBB6.out.below (new_stored ht7)).cell (i := 0) rfl; have hfb := (HBB6.out.below (new_stored ht7)).free 0; clear hr7 ht7; refine wpList_nil ?_)
    clear hcb hfb
    have hw0 : Below w.heap.size w (w7.setCell ⟨w.heap.size, 0, none⟩ (.slice (some ⟨w6.heap.size, 0, none⟩) 32 32)) := ((Turns.of_below HB7.out).setCell (R := fun _ => False) (by simp) _).below (fun _ _ h => h)
    have hbx : Rw (w7.setCell ⟨w.heap.size, 0, none⟩ (.slice (some ⟨w6.heap.size, 0, none⟩) 32 32)) w.heap.size [.slice (some ⟨w6.heap.size, 0, none⟩) 32 32] 22 := HBB7.out.set 0 _
    have hne : w6.heap.size ≠ w.heap.size := by have := HBB6.out.lt; omega
    have hby : BytesOf (w7.setCell ⟨w.heap.size, 0, none⟩ (.slice (some ⟨w6.heap.size, 0, none⟩) 32 32)) (some ⟨w6.heap.size, 0, none⟩) 32 32 kk := rw_bytes (HR7.out.set_other hne _) HKL32.out (Nat.le_refl _) (by decide)
    have hs0 : w.heap.size < (w7.setCell ⟨w.heap.size, 0, none⟩ (.slice (some ⟨w6.heap.size, 0, none⟩) 32 32)).heap.size := hbx.lt
    obtain ⟨w0, hw0e⟩ : ∃ w0, w0 = w7.setCell ⟨w.heap.size, 0, none⟩ (.slice (some ⟨w6.heap.size, 0, none⟩) 32 32) := ⟨_, rfl⟩
    rw [← hw0e] at hw0 hbx hby hs0 ⊢
    have HK0 := Calm.hid (HK.out.below hw0)
    have HW0 := Calm.hid hw0
    have HBX := Calm.hid hbx
    have HBY := Calm.hid hby
    have HS0 := Calm.hid hs0
    clear hw0 hbx hby hw0e hs0 hne
    refine (new_any w0).mono ?_
    rintro en w1 ⟨rfl, hh1, hb1⟩
    have hks : kk.length ≤ 64 := HKL.out
    have HBX1 := Calm.hid (HBX.out.below hb1)
    have HBY1 := Calm.hid (HBY.out.below hb1)
    have HB1 := Calm.hid (HW0.out.trans (hb1.mono HW0.out.size))
    have HH1 := Calm.hid hh1
    have HK1 := Calm.hid (HK0.out.below hb1)
    clear hh1 hb1
    go_wp2_with fail
    refine (keyBlock_n 92 92 rfl w.heap.size kk hks _ (some ⟨w6.heap.size, 0, none⟩) 32 w1 HBX1.out HBY1.out).mono ?_
    rintro en w2 ⟨rfl, ho2, hb2⟩
    have HBX2 := Calm.hid (HBX1.out.below hb2)
    have HBY2 := Calm.hid (HBY1.out.below hb2)
    have HB2 := Calm.hid (HB1.out.trans (hb2.mono HB1.out.size))
    have HH2 := Calm.hid (HH1.out.below hb2)
    have HK2 := Calm.hid (HK1.out.below hb2)
    have HO2 := Calm.hid ho2
    clear ho2 hb2
    have hal := fun (a : Array Value) => (Below.refl w2.heap.size w2).alloc (Nat.le_refl _) (.cells a 51)
    have HP3 : Hid (Rw (w2.alloc (.cells #[.pointer (some ⟨w0.heap.size, 0, none⟩), .slice (some ⟨w1.heap.size, 0, none⟩) 64 64] 51)) w2.heap.size [.pointer (some ⟨w0.heap.size, 0, none⟩), .slice (some ⟨w1.heap.size, 0, none⟩) 64 64] 51) := Rw.new w2 _ 51
    have HA3 := Calm.hid (hal #[.pointer (some ⟨w0.heap.size, 0, none⟩), .slice (some ⟨w1.heap.size, 0, none⟩) 64 64])
    clear hal
    go_wp2
    obtain ⟨w3, hw3⟩ : ∃ w3, w3 = w2.alloc (.cells #[.pointer (some ⟨w0.heap.size, 0, none⟩), .slice (some ⟨w1.heap.size, 0, none⟩) 64 64] 51) := ⟨_, rfl⟩
    rw [← hw3] at HP3 HA3 ⊢
    clear hw3
    have HBX3 := Calm.hid (HBX2.out.below HA3.out)
    have HBY3 := Calm.hid (HBY2.out.below HA3.out)
    have HB3 := Calm.hid (HB2.out.trans (HA3.out.mono HB2.out.size))
    have HH3 := Calm.hid (HH2.out.below HA3.out)
    have HK3 := Calm.hid (HK2.out.below HA3.out)
    have HO3 := Calm.hid (HO2.out.below HA3.out)
    have cp : ∀ q : KeptR (fun k => k = w0.heap.size) w3, q.world.cell? ⟨w2.heap.size, 0, none⟩ = some (.pointer (some ⟨w0.heap.size, 0, none⟩)) := fun q => (HP3.out.turns q.turns (by have := HH2.out.row.lt; omega)).cell rfl
    refine region_sr (fun k => k = w0.heap.size) [true, true, true, true, true, false, false] (by kernel_rfl) (by kernel_rfl) ?_
    simp only [Calm.heads, Calm.tails]
    repeat (go_big_quiet_step (fail))
    refine wpQuiet_nil ?_
    clear cp
    refine wpC_step ?_
    go_wp2_with fail
    refine (keyBlock_n 54 54 rfl w.heap.size kk hks _ (some ⟨w6.heap.size, 0, none⟩) 32 _ (HBX3.out.drewN 1) (HBY3.out.drewN 1)).mono ?_
    rintro en w4 ⟨rfl, ho4, hb4⟩
    have HB4 := Calm.hid hb4
    have HO4 := Calm.hid ho4
    clear hb4 ho4
    go_wp2
    have HB34 : Hid (Below w3.heap.size w3 w4) := (show Below w3.heap.size w3 (w3.drewN 1) from (Below.refl _ _).drew).trans HB4.out
    refine ⟨⟨⟨w4, Turns.of_below HB34.out |>.mono (fun _ _ h => h)⟩, rfl⟩, ?_⟩
    refine wpC_step ?_
    have HH4 := Calm.hid (HH3.out.below HB34.out)
    have HK4 := Calm.hid (HK3.out.below HB34.out)
    have hpl : (xorB 54 (pad64 kk)).length = 64 := by rw [xorB_length, pad64_length hks]
    have HPL := Calm.hid hpl
    have HS34 : Hid (w3.heap.size = (w3.drewN 1).heap.size) := rfl
    clear hpl
    go_wp2_with fail
    refine (write_n w0.heap.size (.slice none 0 0) [] (xorB 54 (pad64 kk)) 64 (some ⟨w3.heap.size, 0, none⟩) 64 w4 HH4.out (rw_bytes HO4.out HPL.out (Nat.le_refl _) (by decide)) (by rw [HPL.out]; simp) (fun ad had _ => by simp at had; subst had; have := HH3.out.row.lt; simp; omega) HK4.out (by have := HK0.out.pos; omega)).mono ?_
    rintro en w5 ⟨rfl, left5, hh5, ht5, hl5⟩
    rw [List.nil_append] at hh5
    have HH5 := Calm.hid hh5
    have HT5 : Hid (Turns (fun k => k = w0.heap.size) w4 w5) := ht5.mono (fun k _ e => by simpa [Value.ownBlock] using e)
    have HL5 := Calm.hid hl5
    clear hh5 ht5 hl5
    go_wp2
    refine ⟨⟨⟨w5, (Turns.of_below HB34.out).trans HT5.out⟩, rfl⟩, ?_⟩
    refine wpC_nil ?_
    go_wp2
    go_ret
    have h1 := HH3.out.row.lt
    have h2 := HO3.out.lt
    have h3 := HP3.out.lt
    have z0 := HS0.out
    have s01 : w0.heap.size < w1.heap.size := HH1.out.row.lt
    have s12 := HO2.out.lt
    have l3 := HL5.out
    have s34 := HB34.out.size
    refine ⟨⟨w2.heap.size, w0.heap.size, w1.heap.size, left5, rfl, ?_⟩, ?_⟩
    · exact ⟨(HP3.out.below HB34.out).turns HT5.out (by omega), HH5.out, (HO3.out.below HB34.out).turns HT5.out (by omega), by rw [xorB_length, pad64_length hks], by omega, by omega, by omega, fun k hk => by have := l3 k hk; omega, by omega, by omega, by omega, fun e => by have := l3 _ e; omega, fun e => by have := l3 _ e; omega⟩
    · exact ((Turns.of_below (HB3.out.trans (HB34.out.mono HB3.out.size))).step HT5.out (fun k hk e => by omega)).below (fun _ _ h => h)
  · have hd : decide (64 < (key.length : Int)) = false := by simp; omega
    have hsh : short key = key := by unfold short; rw [if_neg (by omega)]
    rw [hsh]
    clear hsh
    go_enter Tryd.func25, Tryd.ntmps25
    go_wp2_with fail
    have hw0 : Below w.heap.size w (w.alloc (.cells #[.slice p key.length c] 22)) := (Below.refl _ _).alloc (Nat.le_refl _) _
    have hbx : Rw (w.alloc (.cells #[.slice p key.length c] 22)) w.heap.size [.slice p key.length c] 22 := Rw.new w _ 22
    have hby : BytesOf (w.alloc (.cells #[.slice p key.length c] 22)) p key.length c key := HB.out.below hw0
    obtain ⟨w0, hw0e⟩ : ∃ w0, w0 = w.alloc (.cells #[.slice p key.length c] 22) := ⟨_, rfl⟩
    have hs0 : w.heap.size < w0.heap.size := by rw [hw0e]; simp
    rw [← hw0e] at hw0 hbx hby ⊢
    have HK0 := Calm.hid (HK.out.below hw0)
    have HW0 := Calm.hid hw0
    have HBX := Calm.hid hbx
    have HBY := Calm.hid hby
    have HS0 := Calm.hid hs0
    clear hw0 hbx hby hw0e hs0
    refine (new_any w0).mono ?_
    rintro en w1 ⟨rfl, hh1, hb1⟩
    have hks : key.length ≤ 64 := by omega
    have HBX1 := Calm.hid (HBX.out.below hb1)
    have HBY1 := Calm.hid (HBY.out.below hb1)
    have HB1 := Calm.hid (HW0.out.trans (hb1.mono HW0.out.size))
    have HH1 := Calm.hid hh1
    have HK1 := Calm.hid (HK0.out.below hb1)
    clear hh1 hb1
    go_wp2_with fail
    refine (keyBlock_n 92 92 rfl w.heap.size key hks _ p c w1 HBX1.out HBY1.out).mono ?_
    rintro en w2 ⟨rfl, ho2, hb2⟩
    have HBX2 := Calm.hid (HBX1.out.below hb2)
    have HBY2 := Calm.hid (HBY1.out.below hb2)
    have HB2 := Calm.hid (HB1.out.trans (hb2.mono HB1.out.size))
    have HH2 := Calm.hid (HH1.out.below hb2)
    have HK2 := Calm.hid (HK1.out.below hb2)
    have HO2 := Calm.hid ho2
    clear ho2 hb2
    have hal := fun (a : Array Value) => (Below.refl w2.heap.size w2).alloc (Nat.le_refl _) (.cells a 51)
    have HP3 : Hid (Rw (w2.alloc (.cells #[.pointer (some ⟨w0.heap.size, 0, none⟩), .slice (some ⟨w1.heap.size, 0, none⟩) 64 64] 51)) w2.heap.size [.pointer (some ⟨w0.heap.size, 0, none⟩), .slice (some ⟨w1.heap.size, 0, none⟩) 64 64] 51) := Rw.new w2 _ 51
    have HA3 := Calm.hid (hal #[.pointer (some ⟨w0.heap.size, 0, none⟩), .slice (some ⟨w1.heap.size, 0, none⟩) 64 64])
    clear hal
    go_wp2
    obtain ⟨w3, hw3⟩ : ∃ w3, w3 = w2.alloc (.cells #[.pointer (some ⟨w0.heap.size, 0, none⟩), .slice (some ⟨w1.heap.size, 0, none⟩) 64 64] 51) := ⟨_, rfl⟩
    rw [← hw3] at HP3 HA3 ⊢
    clear hw3
    have HBX3 := Calm.hid (HBX2.out.below HA3.out)
    have HBY3 := Calm.hid (HBY2.out.below HA3.out)
    have HB3 := Calm.hid (HB2.out.trans (HA3.out.mono HB2.out.size))
    have HH3 := Calm.hid (HH2.out.below HA3.out)
    have HK3 := Calm.hid (HK2.out.below HA3.out)
    have HO3 := Calm.hid (HO2.out.below HA3.out)
    have cp : ∀ q : KeptR (fun k => k = w0.heap.size) w3, q.world.cell? ⟨w2.heap.size, 0, none⟩ = some (.pointer (some ⟨w0.heap.size, 0, none⟩)) := fun q => (HP3.out.turns q.turns (by have := HH2.out.row.lt; omega)).cell rfl
    refine region_sr (fun k => k = w0.heap.size) [true, true, true, true, true, false, false] (by kernel_rfl) (by kernel_rfl) ?_
    simp only [Calm.heads, Calm.tails]
    repeat (go_big_quiet_step (fail))
    refine wpQuiet_nil ?_
    clear cp
    refine wpC_step ?_
    go_wp2_with fail
    refine (keyBlock_n 54 54 rfl w.heap.size key hks _ p c _ (HBX3.out.drewN 1) (HBY3.out.drewN 1)).mono ?_
    rintro en w4 ⟨rfl, ho4, hb4⟩
    have HB4 := Calm.hid hb4
    have HO4 := Calm.hid ho4
    clear hb4 ho4
    go_wp2
    have HB34 : Hid (Below w3.heap.size w3 w4) := (show Below w3.heap.size w3 (w3.drewN 1) from (Below.refl _ _).drew).trans HB4.out
    refine ⟨⟨⟨w4, Turns.of_below HB34.out |>.mono (fun _ _ h => h)⟩, rfl⟩, ?_⟩
    refine wpC_step ?_
    have HH4 := Calm.hid (HH3.out.below HB34.out)
    have HK4 := Calm.hid (HK3.out.below HB34.out)
    have hpl : (xorB 54 (pad64 key)).length = 64 := by rw [xorB_length, pad64_length hks]
    have HPL := Calm.hid hpl
    have HS34 : Hid (w3.heap.size = (w3.drewN 1).heap.size) := rfl
    clear hpl
    go_wp2_with fail
    refine (write_n w0.heap.size (.slice none 0 0) [] (xorB 54 (pad64 key)) 64 (some ⟨w3.heap.size, 0, none⟩) 64 w4 HH4.out (rw_bytes HO4.out HPL.out (Nat.le_refl _) (by decide)) (by rw [HPL.out]; simp) (fun ad had _ => by simp at had; subst had; have := HH3.out.row.lt; simp; omega) HK4.out (by have := HK0.out.pos; omega)).mono ?_
    rintro en w5 ⟨rfl, left5, hh5, ht5, hl5⟩
    rw [List.nil_append] at hh5
    have HH5 := Calm.hid hh5
    have HT5 : Hid (Turns (fun k => k = w0.heap.size) w4 w5) := ht5.mono (fun k _ e => by simpa [Value.ownBlock] using e)
    have HL5 := Calm.hid hl5
    clear hh5 ht5 hl5
    go_wp2
    refine ⟨⟨⟨w5, (Turns.of_below HB34.out).trans HT5.out⟩, rfl⟩, ?_⟩
    refine wpC_nil ?_
    go_wp2
    go_ret
    have h1 := HH3.out.row.lt
    have h2 := HO3.out.lt
    have h3 := HP3.out.lt
    have z0 := HS0.out
    have s01 : w0.heap.size < w1.heap.size := HH1.out.row.lt
    have s12 := HO2.out.lt
    have l3 := HL5.out
    have s34 := HB34.out.size
    refine ⟨⟨w2.heap.size, w0.heap.size, w1.heap.size, left5, rfl, ?_⟩, ?_⟩
    · exact ⟨(HP3.out.below HB34.out).turns HT5.out (by omega), HH5.out, (HO3.out.below HB34.out).turns HT5.out (by omega), by rw [xorB_length, pad64_length hks], by omega, by omega, by omega, fun k hk => by have := l3 k hk; omega, by omega, by omega, by omega, fun e => by have := l3 _ e; omega, fun e => by have := l3 _ e; omega⟩
    · exact ((Turns.of_below (HB3.out.trans (HB34.out.mono HB3.out.size))).step HT5.out (fun k hk e => by omega)).below (fun _ _ h => h)
end Go.Proofs.YtpbahoapjkmcjaaDoor
