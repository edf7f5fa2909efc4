/-
  The document's own block of a key, each byte xored, and the document's own mac.
-/
import Derived.Test.YtpbahoapjkmcjaaDoorMacOf
namespace Go.Proofs.YtpbahoapjkmcjaaDoor
open Go.RowKit Go.Sha Go.Calm
attribute [local go_sem] u8_bits_xor
theorem u8_xor_zero (x : UInt8) : bits .xor .u8 0 (B8 x) = B8 x := by
  have := u8_bits_xor 0 x
  rw [UInt8.zero_xor] at this
  exact this

theorem xorB_take (x : UInt8) (l : List UInt8) {i : Nat} (hi : i < l.length) : xorB x (l.take (i + 1)) = xorB x (l.take i) ++ [l.getD i 0 ^^^ x] := by
  rw [List.take_add_one, show l[i]? = some (l.getD i 0) by simp [hi]]
  simp [xorB]
theorem pad64_in {key : List UInt8} {i : Nat} (hi : i < key.length) : (pad64 key).getD i 0 = key.getD i 0 := by
  simp [pad64, List.getD_eq_getElem?_getD, hi, List.getElem?_append_left]
theorem pad64_out {key : List UInt8} {i : Nat} (hi : ¬ i < key.length) : (pad64 key).getD i 0 = 0 := by
  simp only [pad64, List.getD_eq_getElem?_getD]
  rw [List.getElem?_append_right (by omega)]
  by_cases h : i - key.length < 64 - key.length
  · rw [List.getElem?_replicate_of_lt h]; rfl
  · rw [List.getElem?_eq_none (by simp; omega)]; rfl

set_option maxRecDepth 100000 in
set_option maxHeartbeats 1000000 in
theorem refBlock_any (x : UInt8) (key : List UInt8) (p : Option Addr) (c : Nat) (w : World) (hb : BytesOf w p key.length c key) (hlen : key.length < 35184372088832) :
    Calls Tryd.prog 32 #[.slice p key.length c, .int .u8 (B8 x)] w fun en w' => ∃ q cap, en = .returned (.slice q 64 cap) ∧ FL w (.slice q 64 cap) (xorB x (pad64 (short key))) w' := by
  obtain ⟨i0, hi0, hz0, hz1, hz2⟩ := info_parts Tryd.info5
  have HB := Calm.hid hb
  clear hb
  obtain ⟨kk, hkk⟩ : ∃ kk, kk = short key := ⟨_, rfl⟩
  have HKL : Hid (kk.length ≤ 64) := by show kk.length ≤ 64; rw [hkk]; exact short_length key
  rw [← hkk]
  have HKK := Calm.hid hkk
  clear hkk
  obtain ⟨F, hF⟩ : ∃ F, F = pad64 kk := ⟨_, rfl⟩
  have HFL : Hid (F.length = 64) := by show F.length = 64; rw [hF]; exact pad64_length HKL.out
  rw [← hF]
  have HF := Calm.hid hF
  clear hF
  by_cases h64 : 64 < key.length
  · have hd : decide (64 < (key.length : Int)) = true := by simp; omega
    have HKD : Hid (kk = digest key) := by show kk = digest key; rw [HKK.out, short, if_pos h64]
    go_enter Tryd.func32, Tryd.ntmps32
    go_wp2_with fail
    refine (ofR_any key p c _ HB.out hlen).mono ?_
    rintro en w6 ⟨rfl, hb6⟩
    rw [← HKD.out]
    have HB6 := Calm.hid hb6
    clear hb6
    have HZ6 : Hid (Rw (w6.alloc (.cells #[.int .u8 0, .int .u8 0, .int .u8 0, .int .u8 0, .int .u8 0, .int .u8 0, .int .u8 0, .int .u8 0, .int .u8 0, .int .u8 0, .int .u8 0, .int .u8 0, .int .u8 0, .int .u8 0, .int .u8 0, .int .u8 0, .int .u8 0, .int .u8 0, .int .u8 0, .int .u8 0, .int .u8 0, .int .u8 0, .int .u8 0, .int .u8 0, .int .u8 0, .int .u8 0, .int .u8 0, .int .u8 0, .int .u8 0, .int .u8 0, .int .u8 0, .int .u8 0] 25)) w6.heap.size (zero32.map bv) 25) := Rw.new w6 _ 25
    have HK32 : Hid (kk.length = 32) := by show kk.length = 32; rw [HKD.out, digest_length]
    go_wp2_with (refine wpList_store_rw rfl 25 (.tmp 5) (.tmp 13) rfl w6.heap.size (kk.map bv) rfl rfl 25 _ HZ6.out (by rw [List.length_map, HK32.out]; kernel_rfl) (by rw [List.length_map, List.length_map, HK32.out]; rfl) (BytesOf.one _) ?_; intro w0 hr7 ht7; have HR7 := Calm.hid hr7; have HB7 := Calm.hid (HB6.out.trans ((new_stored ht7).mono HB6.out.size)); clear hr7 ht7; refine wpList_nil ?_)
    have HKB : Hid (BytesOf w0 (some ⟨w6.heap.size, 0, none⟩) 32 32 kk) := rw_bytes HR7.out HK32.out (Nat.le_refl _) (by decide)
    have HT0 : Hid (Below w.heap.size w w0) := HB7.out
    obtain ⟨pk, hpk⟩ : ∃ pk : Option Addr, pk = some ⟨w6.heap.size, 0, none⟩ := ⟨_, rfl⟩
    rw [← hpk] at HKB
    rw [← hpk]
    clear hpk
    obtain ⟨nk, hnk⟩ : ∃ nk : Nat, (nk : Int) = 32 ∧ nk = kk.length := ⟨32, rfl, HK32.out.symm⟩
    go_loopw [7, 6] (fun t v wr => ∃ (i : Nat) (p : Option Addr) (n k : Nat), i ≤ 64 ∧ t = .int .i64 i ∧ v = .slice p n k ∧ n = i ∧ FL w0 (.slice p n k) (xorB x (F.take i)) wr) (fun t _ _ => 64 - (intOf t).toNat)
    case atStart => exact ⟨0, none, 0, 0, by omega, rfl, rfl, rfl, World.ownsRow_nil _ _ _ _, Turns.refl _ _⟩
    case round =>
      obtain ⟨i, pv, nv, kv, hi, rfl, rfl, rfl, hL⟩ := hrel
      have HL := Calm.hid hL
      clear hL
      by_cases hlt : nv < 64
      · have HXL : Hid ((xorB x (F.take nv)).length = nv) := by show (xorB x (F.take nv)).length = nv; rw [xorB_length, List.length_take, HFL.out]; omega
        have HO : Hid (wr.ownsRow w0.heap.size 5 1 (.slice pv nv kv) nv ((xorB x (F.take nv)).map bv)) := by have := HL.out.own; rw [HXL.out] at this; exact this
        have HST := Calm.hid (xorB_take x F (i := nv) (by rw [HFL.out]; exact hlt))
        by_cases hin : nv < 32
        · obtain ⟨bb, oo, rfl⟩ : ∃ bb oo, pk = some ⟨bb, oo, none⟩ := by
            cases pk with
            | none => have := (HKB.out.nil rfl).1; omega
            | some ad => obtain ⟨bb, oo, rfl⟩ := HKB.out.plain (by omega); exact ⟨bb, oo, rfl⟩
          obtain ⟨y, hy⟩ : ∃ y, y = kk.getD nv 0 := ⟨_, rfl⟩
          have c0 : wr.cell? ⟨bb, oo + nv, none⟩ = some (bv y) := by rw [hy]; exact (HKB.out.turns HL.out.turns (fun _ _ _ h => h)).cell hin
          have HY : Hid (F.getD nv 0 = y) := by show F.getD nv 0 = y; rw [HF.out, hy]; exact pad64_in (by have := HK32.out; omega)
          clear hy
          go_wp2_with (at_builtin; refine wpList_append_any rfl (.tmp 27) (.tmp 31) 22 rfl w0.heap.size 5 i0 (.int .u8 0) 1 1 Tryd.underlying22 hi0 hz0 hz1 hz2 rfl (by decide) _ _ _ rfl (HO.out.alloc _) (some ⟨wr.heap.size, 0, none⟩) 1 1 [bv (y ^^^ x)] rfl rfl (by simp) (one_news _ _ _) (by simp [Value.oneCell']) ?_ ?_ ?_ ?_)
          case refine_1 => simp [maxLen]; omega
          case refine_2 => simp; omega
          case refine_3 => have := HL.out.turns.size; simp; omega
          intro v4 w4 hown4 hg4
          obtain ⟨p4, c4, hv4, hf4⟩ := HL.out.grow (x := y ^^^ x) HXL.out.symm hg4 hown4
          rw [← HY.out, ← HST.out] at hf4
          have HF4 := Calm.hid hf4
          clear hown4 hg4 hf4
          rw [hv4]
          go_wp2
          go_roundw
          case rel => exact ⟨nv + 1, _, _, _, by omega, by go_num, rfl, rfl, HF4.out⟩
          case measure => simp [intOf]; omega
        · have HY : Hid (F.getD nv 0 = 0) := by show F.getD nv 0 = 0; rw [HF.out]; exact pad64_out (by have := HK32.out; omega)
          go_wp2_with (at_builtin; refine wpList_append_any rfl (.tmp 27) (.tmp 31) 22 rfl w0.heap.size 5 i0 (.int .u8 0) 1 1 Tryd.underlying22 hi0 hz0 hz1 hz2 rfl (by decide) _ _ _ rfl (HO.out.alloc _) (some ⟨wr.heap.size, 0, none⟩) 1 1 [bv x] rfl rfl (by simp) (by rw [u8_xor_zero]; exact one_news _ _ _) (by simp [Value.oneCell']) ?_ ?_ ?_ ?_)
          case refine_1 => simp [maxLen]; omega
          case refine_2 => simp; omega
          case refine_3 => have := HL.out.turns.size; simp; omega
          intro v4 w4 hown4 hg4
          obtain ⟨p4, c4, hv4, hf40⟩ := HL.out.grow (x := x) HXL.out.symm hg4 hown4
          have hf4 : FL w0 (.slice p4 (nv + 1) c4) (xorB x (F.take nv) ++ [F.getD nv 0 ^^^ x]) w4 := by rw [HY.out, UInt8.zero_xor]; exact hf40
          rw [← HST.out] at hf4
          clear hf40
          have HF4 := Calm.hid hf4
          clear hown4 hg4 hf4
          rw [hv4]
          go_wp2
          go_roundw
          case rel => exact ⟨nv + 1, _, _, _, by omega, by go_num, rfl, rfl, HF4.out⟩
          case measure => simp [intOf]; omega
      · have HI : Hid (nv = 64) := show nv = 64 by omega
        have hf5 : FL w (.slice pv 64 kv) (xorB x F) wr := by
          have h1 := HL.out
          rw [HI.out, List.take_of_length_le (by rw [HFL.out]; exact Nat.le_refl _)] at h1
          exact ⟨own_base h1.own (fun k hk => Nat.le_trans HT0.out.size (h1.own.lt k hk).1), (Turns.of_below HT0.out).trans h1.turns⟩
        have HF5 := Calm.hid hf5
        clear hf5
        go_wp2
        go_ret
        rw [HI.out]
        exact ⟨pv, kv, rfl, HF5.out⟩
  · have hd : decide (64 < (key.length : Int)) = false := by simp; omega
    have HKD : Hid (kk = key) := by show kk = key; rw [HKK.out, short, if_neg h64]
    go_enter Tryd.func32, Tryd.ntmps32
    go_wp2_with fail
    obtain ⟨w0, hw0⟩ : ∃ w0, w0 = w := ⟨_, rfl⟩
    have HT0 : Hid (Below w.heap.size w w0) := by rw [hw0]; exact Below.refl _ _
    obtain ⟨pk, hpk⟩ : ∃ pk : Option Addr, pk = p := ⟨_, rfl⟩
    have HKB : Hid (BytesOf w0 pk key.length c kk) := by rw [hw0, hpk, HKD.out]; exact HB.out
    have HLN : Hid (key.length = kk.length) := by rw [HKD.out]; rfl
    rw [← hw0, ← hpk]
    clear hw0 hpk
    go_loopw [7, 6] (fun t v wr => ∃ (i : Nat) (p : Option Addr) (n k : Nat), i ≤ 64 ∧ t = .int .i64 i ∧ v = .slice p n k ∧ n = i ∧ FL w0 (.slice p n k) (xorB x (F.take i)) wr) (fun t _ _ => 64 - (intOf t).toNat)
    case atStart => exact ⟨0, none, 0, 0, by omega, rfl, rfl, rfl, World.ownsRow_nil _ _ _ _, Turns.refl _ _⟩
    case round =>
      obtain ⟨i, pv, nv, kv, hi, rfl, rfl, rfl, hL⟩ := hrel
      have HL := Calm.hid hL
      clear hL
      by_cases hlt : nv < 64
      · have HXL : Hid ((xorB x (F.take nv)).length = nv) := by show (xorB x (F.take nv)).length = nv; rw [xorB_length, List.length_take, HFL.out]; omega
        have HO : Hid (wr.ownsRow w0.heap.size 5 1 (.slice pv nv kv) nv ((xorB x (F.take nv)).map bv)) := by have := HL.out.own; rw [HXL.out] at this; exact this
        have HST := Calm.hid (xorB_take x F (i := nv) (by rw [HFL.out]; exact hlt))
        by_cases hin : nv < key.length
        · obtain ⟨bb, oo, rfl⟩ : ∃ bb oo, pk = some ⟨bb, oo, none⟩ := by
            cases pk with
            | none => have := (HKB.out.nil rfl).1; omega
            | some ad => obtain ⟨bb, oo, rfl⟩ := HKB.out.plain (by omega); exact ⟨bb, oo, rfl⟩
          obtain ⟨y, hy⟩ : ∃ y, y = kk.getD nv 0 := ⟨_, rfl⟩
          have c0 : wr.cell? ⟨bb, oo + nv, none⟩ = some (bv y) := by rw [hy]; exact (HKB.out.turns HL.out.turns (fun _ _ _ h => h)).cell hin
          have HY : Hid (F.getD nv 0 = y) := by show F.getD nv 0 = y; rw [HF.out, hy]; exact pad64_in (by have := HLN.out; omega)
          clear hy
          go_wp2_with (at_builtin; refine wpList_append_any rfl (.tmp 27) (.tmp 31) 22 rfl w0.heap.size 5 i0 (.int .u8 0) 1 1 Tryd.underlying22 hi0 hz0 hz1 hz2 rfl (by decide) _ _ _ rfl (HO.out.alloc _) (some ⟨wr.heap.size, 0, none⟩) 1 1 [bv (y ^^^ x)] rfl rfl (by simp) (one_news _ _ _) (by simp [Value.oneCell']) ?_ ?_ ?_ ?_)
          case refine_1 => simp [maxLen]; omega
          case refine_2 => simp; omega
          case refine_3 => have := HL.out.turns.size; simp; omega
          intro v4 w4 hown4 hg4
          obtain ⟨p4, c4, hv4, hf4⟩ := HL.out.grow (x := y ^^^ x) HXL.out.symm hg4 hown4
          rw [← HY.out, ← HST.out] at hf4
          have HF4 := Calm.hid hf4
          clear hown4 hg4 hf4
          rw [hv4]
          go_wp2
          go_roundw
          case rel => exact ⟨nv + 1, _, _, _, by omega, by go_num, rfl, rfl, HF4.out⟩
          case measure => simp [intOf]; omega
        · have HY : Hid (F.getD nv 0 = 0) := by show F.getD nv 0 = 0; rw [HF.out]; exact pad64_out (by have := HLN.out; omega)
          go_wp2_with (at_builtin; refine wpList_append_any rfl (.tmp 27) (.tmp 31) 22 rfl w0.heap.size 5 i0 (.int .u8 0) 1 1 Tryd.underlying22 hi0 hz0 hz1 hz2 rfl (by decide) _ _ _ rfl (HO.out.alloc _) (some ⟨wr.heap.size, 0, none⟩) 1 1 [bv x] rfl rfl (by simp) (by rw [u8_xor_zero]; exact one_news _ _ _) (by simp [Value.oneCell']) ?_ ?_ ?_ ?_)
          case refine_1 => simp [maxLen]; omega
          case refine_2 => simp; omega
          case refine_3 => have := HL.out.turns.size; simp; omega
          intro v4 w4 hown4 hg4
          obtain ⟨p4, c4, hv4, hf40⟩ := HL.out.grow (x := x) HXL.out.symm hg4 hown4
          have hf4 : FL w0 (.slice p4 (nv + 1) c4) (xorB x (F.take nv) ++ [F.getD nv 0 ^^^ x]) w4 := by rw [HY.out, UInt8.zero_xor]; exact hf40
          rw [← HST.out] at hf4
          clear hf40
          have HF4 := Calm.hid hf4
          clear hown4 hg4 hf4
          rw [hv4]
          go_wp2
          go_roundw
          case rel => exact ⟨nv + 1, _, _, _, by omega, by go_num, rfl, rfl, HF4.out⟩
          case measure => simp [intOf]; omega
      · have HI : Hid (nv = 64) := show nv = 64 by omega
        have hf5 : FL w (.slice pv 64 kv) (xorB x F) wr := by
          have h1 := HL.out
          rw [HI.out, List.take_of_length_le (by rw [HFL.out]; exact Nat.le_refl _)] at h1
          exact ⟨own_base h1.own (fun k hk => Nat.le_trans HT0.out.size (h1.own.lt k hk).1), (Turns.of_below HT0.out).trans h1.turns⟩
        have HF5 := Calm.hid hf5
        clear hf5
        go_wp2
        go_ret
        rw [HI.out]
        exact ⟨pv, kv, rfl, HF5.out⟩
end Go.Proofs.YtpbahoapjkmcjaaDoor
