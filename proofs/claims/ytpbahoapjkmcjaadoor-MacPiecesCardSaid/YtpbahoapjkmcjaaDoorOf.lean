/-
  Of and Text: the digest of a slice of bytes, and the text of a digest.
-/
import Derived.Test.YtpbahoapjkmcjaaDoorSum
namespace Go.Proofs.YtpbahoapjkmcjaaDoor
open Go.RowKit Go.Sha Go.Calm
theorem HasK.pos {w : World} (h : HasK w) : 0 < w.heap.size := World.block_lt_of_cell? w _ (h 0 (by decide))
theorem HasK.below {w w' : World} (h : HasK w) (k : Below w.heap.size w w') : HasK w' := h.turns (Turns.of_below (R := fun _ => False) k) (fun h => h)
theorem IsHash.below {w w' : World} {hb : Nat} {left : Value} {m : List UInt8} (h : IsHash w hb left m) (k : Below w.heap.size w w') : IsHash w' hb left m :=
  ⟨h.row.below k, own_turns h.own (Turns.of_below (R := fun _ => False) k) (fun _ _ h => h)⟩

set_option maxRecDepth 100000 in
set_option maxHeartbeats 400000 in
theorem of_any (b : List UInt8) (p : Option Addr) (cap : Nat) (w : World) (hs : BytesOf w p b.length cap b) (hlen : b.length < 35184372088832) (hK : HasK w) :
    Calls Tryd.prog 14 #[.slice p b.length cap] w fun en w' => en = .returned (.agg (arr (digest b))) ∧ Below w.heap.size w w' := by
  have HS := Calm.hid hs
  have HK := Calm.hid hK
  clear hs hK
  go_enter Tryd.func14, Tryd.ntmps14
  go_wp2_with fail
  refine (new_any _).mono ?_
  rintro en w1 ⟨rfl, hh1, hb1⟩
  have hz := (Rw.new w #[.int .u8 0, .int .u8 0, .int .u8 0, .int .u8 0, .int .u8 0, .int .u8 0, .int .u8 0, .int .u8 0, .int .u8 0, .int .u8 0, .int .u8 0, .int .u8 0, .int .u8 0, .int .u8 0, .int .u8 0, .int .u8 0, .int .u8 0, .int .u8 0, .int .u8 0, .int .u8 0, .int .u8 0, .int .u8 0, .int .u8 0, .int .u8 0, .int .u8 0, .int .u8 0, .int .u8 0, .int .u8 0, .int .u8 0, .int .u8 0, .int .u8 0, .int .u8 0] 25).below hb1
  have hT : Turns (fun _ => False) w w1 := ((Turns.refl _ w).alloc _).trans (Turns.of_below hb1)
  simp only [World.size_alloc] at hh1
  clear hb1
  have HH := Calm.hid hh1
  have HZ := Calm.hid hz
  have HT := Calm.hid hT
  clear hh1 hz hT
  go_wp2_with fail
  have hks : HasK w1 := HK.out.turns HT.out (fun h => h)
  refine (write_any (w.heap.size + 1) (.slice none 0 0) [] b p cap w1 HH.out (HS.out.turns HT.out (fun _ _ _ h => h)) (by simp; omega) (fun ad had hpos e => by
    have := HS.out.at_ ad had 0 hpos
    have := World.block_lt_of_cell? w _ this
    simp [Addr.add] at this; omega) hks (by omega)).mono ?_
  rintro en w2 ⟨rfl, left2, hh2, ht2, _⟩
  have hz2 := HZ.out.turns ht2 (fun e => by simp [Value.ownBlock] at e)
  have hT2 : Turns (fun _ => False) w w2 := HT.out.step ht2 (fun k hk e => by simp [Value.ownBlock] at e; omega)
  have hks2 : HasK w2 := HK.out.turns hT2 (fun h => h)
  rw [List.nil_append] at hh2
  have HH2 := Calm.hid hh2
  have HZ2 := Calm.hid hz2
  have HT2 := Calm.hid hT2
  have HK2 := Calm.hid hks2
  clear hh2 ht2 hz2 hT2 hks2 hks
  go_wp2_with fail
  refine (sum_any (w.heap.size + 1) left2 b w2 HH2.out hlen HK2.out).mono ?_
  rintro en w3 ⟨rfl, hb3⟩
  have hz3 := HZ2.out.below hb3
  have hT3 := HT2.out.trans (Turns.of_below hb3)
  clear hb3
  go_wp2_with (refine wpList_store_rw rfl 25 (.tmp 2) (.tmp 9) rfl w.heap.size _ rfl rfl 25 _ hz3 (by rw [List.length_map, digest_length]; kernel_rfl) (by rw [List.length_map, digest_length]; rfl) (BytesOf.one _) ?_; intro w9 hr9 ht9; refine wpList_nil ?_)
  exact bodyPost_ret (results_cell_rw rfl rfl hr9 Tryd.underlying25 (by rw [List.length_map, digest_length]; kernel_rfl)) rfl ⟨rfl, (hT3.step ht9 (fun b hb e => by subst e; exact absurd hb (Nat.lt_irrefl _))).below (fun _ _ h => h)⟩

/-! ### The text of a digest -/
def hexd (n : Nat) : UInt8 := [48, 49, 50, 51, 52, 53, 54, 55, 56, 57, 97, 98, 99, 100, 101, 102].getD n 0
theorem index_digest (x : Array Value) (i : Nat) (c : UInt8) (hi : (i : Int) < 32) (hx : x[i]? = some (bv c)) (w : World) : (Instr.index 25 (.agg x) (.int .i64 i)).run Tryd.prog w = .ok (bv c) w := by
  have hs := run_underlying (w := w) Tryd.underlying25
  obtain ⟨i0, hi0, hz0, hz1, hz2⟩ := info_parts Tryd.info5
  simp [Instr.index, asIntOf, hs, hi0, hz1, part, sizeOf, typeInfo, hx]
  omega
theorem hex_at (k : Int) (h0 : 0 ≤ k) (h1 : k < 16) (w : World) : (Instr.index 9 (.string ⟨#[48, 49, 50, 51, 52, 53, 54, 55, 56, 57, 97, 98, 99, 100, 101, 102]⟩) (.int .u8 k)).run Tryd.prog w = .ok (bv (hexd k.toNat)) w := by
  have hs := run_underlying (w := w) (show Tryd.prog.underlying 9 = some .string from Tryd.underlying9)
  obtain ⟨n, rfl⟩ := Int.eq_ofNat_of_zero_le h0
  have hn : n < 16 := by omega
  have hg : (⟨#[48, 49, 50, 51, 52, 53, 54, 55, 56, 57, 97, 98, 99, 100, 101, 102]⟩ : ByteArray)[n]? = some (hexd n) := by
    have : ∀ n, n < 16 → (⟨#[48, 49, 50, 51, 52, 53, 54, 55, 56, 57, 97, 98, 99, 100, 101, 102]⟩ : ByteArray)[n]? = some (hexd n) := by decide
    exact this n hn
  simp [Instr.index, asIntOf, hs, hg, B8]
def hexOf (l : List UInt8) : List UInt8 := l.flatMap fun c => [hexd (c.toNat / 16), hexd (c.toNat % 16)]
structure TL (w : World) (v : Value) (T : List UInt8) (wr : World) : Prop where
  own : wr.ownsRow (w.heap.size + 1) 5 1 v T.length (T.map bv)
  turns : Turns (fun _ => False) w wr

theorem hexOf_length (l : List UInt8) : (hexOf l).length = 2 * l.length := by
  induction l with
  | nil => rfl
  | cons c l ih => simp [hexOf] at ih ⊢; omega
theorem hexOf_take {d : List UInt8} {i : Nat} {c : UInt8} (hi : i < d.length) (hc : c = d.getD i 0) : hexOf (d.take (i + 1)) = hexOf (d.take i) ++ [hexd (B8 c / 16).toNat, hexd (B8 c % 16).toNat] := by
  have e1 : (B8 c / 16).toNat = c.toNat / 16 := by unfold B8; omega
  have e2 : (B8 c % 16).toNat = c.toNat % 16 := by unfold B8; omega
  have : d[i]? = some c := by rw [hc]; simp [hi]
  rw [List.take_add_one, this, e1, e2]
  simp [hexOf]
theorem two_news (w : World) (x y : Value) (t : TypeId) : ∀ ad, (some ⟨w.heap.size, 0, none⟩ : Option Addr) = some ad → ∀ j u, [x, y][j]? = some u → ((w.alloc (.cells #[x, y] t)).drew).cell? (ad.add j) = some u := by
  intro ad had j u hu
  simp at had; subst had
  match j, hu with
  | 0, hu => simp at hu; subst hu; rw [add_plain]; exact (Rw.new w #[x, y] t).cell rfl
  | 1, hu => simp at hu; subst hu; rw [add_plain]; exact (Rw.new w #[x, y] t).cell rfl
theorem TL.grow {w wr w2 : World} {v v2 : Value} {T X : List UInt8} {o : Obj} (h : TL w v T wr) (hg : (wr.alloc o).drew.grownBy w2 v.ownBlock) (ho : w2.ownsRow (w.heap.size + 1) 5 1 v2 (T.length + X.length) (T.map bv ++ X.map bv)) :
    Below w.heap.size wr w2 ∧ ∃ p c, v2 = .slice p (T.length + X.length) c ∧ TL w (.slice p (T.length + X.length) c) (T ++ X) w2 := by
  have ho' : w2.ownsRow (w.heap.size + 1) 5 1 v2 (T ++ X).length ((T ++ X).map bv) := by simpa using ho
  obtain ⟨p, c, hv, _, _⟩ := BytesOf.own ho'
  rw [List.length_append] at hv
  subst hv
  have t1 : Turns (fun k => v.ownBlock = some k) wr w2 := (((Turns.refl _ wr).alloc o).drew).trans (Turns.of_grown hg (fun k hk _ => hk))
  have t2 : Turns (fun _ => False) w w2 := h.turns.step t1 (fun k hk e => by have := (h.own.lt k e).1; omega)
  refine ⟨⟨t1.os, t1.tape, t1.output, t1.size, fun k hk => t1.block k (Nat.lt_of_lt_of_le hk h.turns.size) (fun e => by have := (h.own.lt k e).1; omega)⟩, p, c, rfl, ho', t2⟩

set_option maxRecDepth 100000 in
set_option maxHeartbeats 400000 in
theorem text_any (d : List UInt8) (hd : d.length = 32) (w : World) : Calls Tryd.prog 16 #[.agg (arr d)] w fun en w' => en = .returned (.string ⟨(hexOf d).toArray⟩) ∧ Below w.heap.size w w' := by
  obtain ⟨i0, hi0, hz0, hz1, hz2⟩ := info_parts Tryd.info5
  obtain ⟨x0, hx0⟩ : ∃ x0, x0 = arr d := ⟨_, rfl⟩
  have HX := Calm.hid hx0
  rw [← hx0]
  clear hx0
  go_enter Tryd.func16, Tryd.ntmps16
  go_wp2_with (refine wpList_load_rw rfl 25 (.tmp 1) rfl w.heap.size rfl 25 _ _ (Rw.new w x0 25) Tryd.underlying25 rfl (by rw [HX.out]; simp only [arr, List.length_map, hd]; kernel_rfl) ?_)
  rw [Array.toArray_toList]
  go_loopw [7, 3] (fun c t wr => ∃ (i : Nat) (p : Option Addr) (n k : Nat), i ≤ 32 ∧ c = .int .i64 i ∧ t = .slice p n k ∧ TL w (.slice p n k) (hexOf (d.take i)) wr) (fun c _ _ => 32 - (intOf c).toNat)
  case atStart => exact ⟨0, none, 0, 0, by omega, rfl, rfl, World.ownsRow_nil _ _ _ _, (Turns.refl _ _).alloc _⟩
  case round =>
    obtain ⟨i, p, n, k, hi, rfl, rfl, hT⟩ := hrel
    by_cases hlt : i < 32
    · obtain ⟨c, hc⟩ : ∃ c, c = d.getD i 0 := ⟨_, rfl⟩
      have HC := Calm.hid hc
      have hx : x0[i]? = some (bv c) := by rw [HX.out, hc]; simp [arr, show i < d.length by omega]
      have hb0 := B8_nonneg c
      have hb1 := B8_lt c
      clear hc
      have hx1 := fun w => index_digest x0 i c (by omega) hx w
      have hx2 := fun w => hex_at (B8 c / 16) (by omega) (by omega) w
      have hx3 := fun w => hex_at (B8 c % 16) (by omega) (by omega) w
      clear hx
      have HT := Calm.hid hT
      clear hT
      go_wp2
      refine Calm.region_sb w.heap.size [true, true, true, true, true, true, true, false, false, false] (by kernel_rfl) (by kernel_rfl) ?_
      simp only [Calm.heads, Calm.tails]
      repeat (go_big_quiet_step (fail))
      refine wpQuiet_nil ?_
      refine wpC_step ?_
      go_wp2
      refine ⟨⟨⟨_, ((Below.refl _ _).alloc HT.out.turns.size _).drew⟩, rfl⟩, ?_⟩
      refine wpC_step (wpList_append_any rfl (.tmp 10) (.tmp 17) 22 rfl (w.heap.size + 1) 5 i0 (.int .u8 0) 1 1 Tryd.underlying22 hi0 hz0 hz1 hz2 rfl (by decide) _ _ _ rfl (HT.out.own.alloc _) (some ⟨wr.heap.size, 0, none⟩) 2 2 [_, _] rfl rfl (by simp) (two_news _ _ _ _) (by simp [Value.oneCell']) ?_ ?_ ?_ ?_)
      · simp [maxLen, hexOf_length]; omega
      · simp [hexOf_length]; omega
      · have := HT.out.turns.size; simp; omega
      intro v2 w2 hown2 hg2
      obtain ⟨hbel, p2, c2, hv2, hT2⟩ := HT.out.grow (X := [hexd (B8 c / 16).toNat, hexd (B8 c % 16).toNat]) hg2 hown2
      rw [← hexOf_take (by omega) HC.out] at hT2
      have HT2 := Calm.hid hT2
      clear hown2 hg2 hT2
      refine wpList_nil ⟨rfl, rfl, ⟨⟨_, hbel⟩, rfl⟩, ?_⟩
      rw [hv2]
      refine wpC_step ?_
      go_wp2
      refine ⟨⟨⟨_, hbel⟩, rfl⟩, ?_⟩
      refine wpC_nil ?_
      go_wp2
      go_roundw
      case rel => exact ⟨i + 1, _, _, _, by omega, by go_num, rfl, HT2.out⟩
      case measure => simp [intOf]; omega
    · have HI : Hid (i = 32) := show i = 32 by omega
      have hT2 : TL w (.slice p n k) (hexOf d) wr := by have h2 := HI.out; subst h2; rwa [List.take_of_length_le (by omega)] at hT
      clear hT
      obtain ⟨p', k', hv, hby, _⟩ := BytesOf.own hT2.own
      simp only [Value.slice.injEq] at hv
      obtain ⟨rfl, rfl, rfl⟩ := hv
      have hconv : (convert 22 9 (.slice p (hexOf d).length k)).run Tryd.prog wr = .ok (.string ⟨(hexOf d).toArray⟩) wr := hby.str Tryd.underlying22 Tryd.underlying5 Tryd.underlying9
      clear hby
      go_wp2
      go_ret
      exact ⟨rfl, hT2.turns.below (fun _ _ h => h)⟩
end Go.Proofs.YtpbahoapjkmcjaaDoor
