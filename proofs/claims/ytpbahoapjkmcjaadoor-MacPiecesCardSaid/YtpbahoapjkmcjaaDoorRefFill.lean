/-
  The document's own filling of bytes: what stands behind them.
-/
import Derived.Test.YtpbahoapjkmcjaaDoorRefMix
namespace Go.Proofs.YtpbahoapjkmcjaaDoor
open Go.RowKit Go.Sha Go.Calm

structure FL (w : World) (t : Value) (T : List UInt8) (wr : World) : Prop where
  own : wr.ownsRow w.heap.size 5 1 t T.length (T.map bv)
  turns : Turns (fun _ => False) w wr
theorem FL.grow {w wr w2 : World} {t v2 : Value} {T : List UInt8} {x : UInt8} {n : Nat} {o : Obj} (h : FL w t T wr) (hn : n = T.length) (hg : (wr.alloc o).grownBy w2 t.ownBlock)
    (ho : w2.ownsRow w.heap.size 5 1 v2 (n + 1) (T.map bv ++ [bv x])) : ∃ p2 c2, v2 = .slice p2 (n + 1) c2 ∧ FL w (.slice p2 (n + 1) c2) (T ++ [x]) w2 := by
  subst hn
  have ho' : w2.ownsRow w.heap.size 5 1 v2 (T ++ [x]).length ((T ++ [x]).map bv) := by simpa using ho
  obtain ⟨p2, c2, hv2, _, _⟩ := BytesOf.own ho'
  rw [List.length_append] at hv2
  simp only [List.length_singleton] at hv2
  subst hv2
  have t1 : Turns (fun k => t.ownBlock = some k) wr w2 := ((Turns.refl _ wr).alloc o).step (Turns.of_grown (R := fun k => t.ownBlock = some k) hg (fun k hk _ => hk)) (fun _ _ h => h)
  exact ⟨p2, c2, rfl, ho', h.turns.step t1 (fun k hk e => by have := (h.own.lt k e).1; omega)⟩
theorem zerosR_go {n m j : Nat} (hj : j < zeros m) (hn : n = m + 1 + j) : ((n : Int) % 64 != 56) = true := by
  unfold zeros at hj
  simp only [bne_iff_ne, ne_eq]
  omega
theorem zerosR_stop {n m j : Nat} (hj : j = zeros m) (hn : n = m + 1 + j) : ((n : Int) % 64 != 56) = false := by
  unfold zeros at hj
  simp only [bne_eq_false_iff_eq]
  omega

set_option maxRecDepth 100000 in
set_option maxHeartbeats 1000000 in
theorem filled_any (b : List UInt8) (p : Option Addr) (cap : Nat) (w : World) (hs : BytesOf w p b.length cap b) (hlen : b.length < 35184372088832) :
    Calls Tryd.prog 28 #[.slice p b.length cap] w fun en w' => (∃ q c, en = .returned (.slice q (b ++ padOf b.length).length c) ∧ BytesOf w' q (b ++ padOf b.length).length c (b ++ padOf b.length) ∧ ∀ ad, q = some ad → w.heap.size ≤ ad.block) ∧ Below w.heap.size w w' := by
  obtain ⟨i0, hi0, hz0, hz1, hz2⟩ := info_parts Tryd.info5
  have HB := Calm.hid hs
  clear hs
  go_enter Tryd.func28, Tryd.ntmps28
  go_wp2_with (at_builtin; refine wpList_append_any rfl (.const (.slice none 0 0)) (.tmp 6) 22 rfl w.heap.size 5 i0 (.int .u8 0) 1 1 Tryd.underlying22 hi0 hz0 hz1 hz2 rfl (by decide) _ _ _ rfl (World.ownsRow_nil _ _ _ _) p b.length cap (b.map bv) rfl (by simp) HB.out.nil HB.out.news (BytesOf.one _) ?_ ?_ ?_ ?_)
  case refine_1 => have := HB.out.max; have := HB.out.le; simp; omega
  case refine_2 => simp; omega
  case refine_3 => exact Nat.le_refl _
  intro v1 w1 hown1 hg1
  have hf1 : FL w v1 b w1 := ⟨by simpa using hown1, Turns.of_below (below_nil hg1)⟩
  obtain ⟨p1, c1, hv1, _, _⟩ := BytesOf.own hf1.own
  subst hv1
  have HF1 := Calm.hid hf1
  clear hown1 hg1 hf1
  go_wp2_with (at_builtin; refine wpList_append_any rfl (.tmp 7) (.tmp 8) 22 rfl w.heap.size 5 i0 (.int .u8 0) 1 1 Tryd.underlying22 hi0 hz0 hz1 hz2 rfl (by decide) _ _ _ rfl (HF1.out.own.alloc _) (some ⟨w1.heap.size, 0, none⟩) 1 1 [bv 128] rfl rfl (by simp) (one_news _ _ _) (by simp [Value.oneCell']) ?_ ?_ ?_ ?_)
  case refine_1 => have := HB.out.max; have := HB.out.le; simp [maxLen]; omega
  case refine_2 => simp; omega
  case refine_3 => have := HF1.out.turns.size; simp; omega
  intro v2 w2 hown2 hg2
  obtain ⟨p2, c2, hv2, hf2⟩ := HF1.out.grow (x := 128) rfl hg2 hown2
  have HF2 := Calm.hid hf2
  clear hown2 hg2 hf2
  rw [hv2]
  go_wp2
  go_loopw [3] (fun t wr => ∃ j p n c, t = .slice p n c ∧ j ≤ zeros b.length ∧ n = b.length + 1 + j ∧ FL w (.slice p n c) (b ++ [128] ++ List.replicate j 0) wr) (fun t _ => b.length + 66 - sliceLen t)
  case atStart => exact ⟨0, _, _, _, rfl, Nat.zero_le _, rfl, by simpa using HF2.out⟩
  case round =>
    clear HF2
    obtain ⟨j, pt, nt, ct, rfl, hj, hn, hS⟩ := hrel
    have hzl : zeros b.length ≤ 63 := zeros_le _
    by_cases hlt : j < zeros b.length
    · have hcond : ((nt : Int) % 64 != 56) = true := zerosR_go hlt hn
      have hTl : (b ++ [128] ++ List.replicate j 0).length = nt := by simp; omega
      have hnb : nt < 35184372088832 + 66 := by omega
      have HX := Calm.hid hS
      have HN := Calm.hid hn
      have HTL := Calm.hid hTl
      have HO : Hid (wr.ownsRow w.heap.size 5 1 (.slice pt nt ct) nt ((b ++ [128] ++ List.replicate j 0).map bv)) := by have := hS.own; rwa [hTl] at this
      clear hS hn hTl
      go_wp2_with (at_builtin; refine wpList_append_any rfl (.tmp 14) (.tmp 15) 22 rfl w.heap.size 5 i0 (.int .u8 0) 1 1 Tryd.underlying22 hi0 hz0 hz1 hz2 rfl (by decide) _ _ _ rfl (HO.out.alloc _) (some ⟨wr.heap.size, 0, none⟩) 1 1 [bv 0] rfl rfl (by simp) (one_news _ _ _) (by simp [Value.oneCell']) ?_ ?_ ?_ ?_)
      case refine_1 => simp [maxLen]; omega
      case refine_2 => simp; omega
      case refine_3 => have := HX.out.turns.size; simp; omega
      intro v4 w4 hown4 hg4
      obtain ⟨p4, c4, hv4, hf4⟩ := HX.out.grow (x := 0) HTL.out.symm hg4 (by simpa using hown4)
      have HF4 := Calm.hid hf4
      clear hown4 hg4 hf4
      rw [hv4]
      go_wp2
      go_roundw
      case rel => exact ⟨j + 1, _, _, _, rfl, by omega, by have := HN.out; omega, by rw [List.replicate_succ', ← List.append_assoc]; exact HF4.out⟩
      case measure => have := HN.out; simp [sliceLen]; omega
    · have hcond : ((nt : Int) % 64 != 56) = false := zerosR_stop (by omega) hn
      have HN : Hid (j = zeros b.length) := show j = zeros b.length by omega
      have HNT : Hid (nt = b.length + 1 + zeros b.length) := show nt = b.length + 1 + zeros b.length by omega
      clear hn hj hlt
      rw [HN.out] at hS
      have HF5 := Calm.hid hS
      clear hS
      go_wp2
      go_loopw [3, 5] (fun t c wr => ∃ (i : Nat) (p : Option Addr) (n d : Nat), t = .slice p n d ∧ i ≤ 8 ∧ c = .int .i64 (56 - 8 * (i : Int)) ∧ n = b.length + 1 + zeros b.length + i ∧ FL w (.slice p n d) (b ++ [128] ++ List.replicate (zeros b.length) 0 ++ (lenB b.length).take i) wr) (fun _ c _ => (intOf c + 8).toNat)
      case atStart => exact ⟨0, _, _, _, rfl, by omega, rfl, by have := HNT.out; omega, by simpa using HF5.out⟩
      case round =>
        clear HF5 hcond
        obtain ⟨i, p4, n4, d4, rfl, hi, rfl, hn4, hS⟩ := hrel
        by_cases hlt : i < 8
        · have h56 : (0 : Int) ≤ 56 - 8 * (i : Int) := by omega
          have hTl : (b ++ [128] ++ List.replicate (zeros b.length) 0 ++ (lenB b.length).take i).length = n4 := by simp [lenB_length]; omega
          have hnb : n4 < 35184372088832 + 100 := by omega
          have HX := Calm.hid hS
          have HN4 := Calm.hid hn4
          have HTL := Calm.hid hTl
          have HO : Hid (wr.ownsRow w.heap.size 5 1 (.slice p4 n4 d4) n4 ((b ++ [128] ++ List.replicate (zeros b.length) 0 ++ (lenB b.length).take i).map bv)) := by have := hS.own; rwa [hTl] at this
          clear hS hn4 hTl
          go_wp2_with (at_builtin; refine wpList_append_any rfl (.tmp 25) (.tmp 30) 22 rfl w.heap.size 5 i0 (.int .u8 0) 1 1 Tryd.underlying22 hi0 hz0 hz1 hz2 rfl (by decide) _ _ _ rfl (HO.out.alloc _) (some ⟨wr.heap.size, 0, none⟩) 1 1 [_] rfl rfl (by simp) (one_news _ _ _) (by simp [Value.oneCell']) ?_ ?_ ?_ ?_)
          case refine_1 => simp [maxLen]; omega
          case refine_2 => simp; omega
          case refine_3 => have := HX.out.turns.size; simp; omega
          intro v6 w6 hown6 hg6
          have e : ((b.length : Int) * 8 / 2 ^ (56 - 8 * i) % 256) = B8 (UInt8.ofNat (b.length * 8 / 2 ^ (56 - 8 * i))) := by rw [← byte_ofNat]; simp
          rw [e] at hown6
          obtain ⟨p6, c6, hv6, hf6⟩ := HX.out.grow (x := UInt8.ofNat (b.length * 8 / 2 ^ (56 - 8 * i))) HTL.out.symm hg6 (by simpa using hown6)
          have HF6 := Calm.hid hf6
          clear e hown6 hg6 hf6
          rw [hv6]
          go_wp2
          go_roundw
          case rel => exact ⟨i + 1, _, _, _, rfl, by omega, by simp; omega, by have := HN4.out; omega, by rw [lenB_take _ _ hlt, ← List.append_assoc]; exact HF6.out⟩
          case measure => simp [intOf]; omega
        · have HI : Hid (i = 8) := show i = 8 by omega
          have hS2 : FL w (.slice p4 n4 d4) (b ++ padOf b.length) wr := by
            have h2 := HI.out
            subst h2
            rw [List.take_of_length_le (by rw [lenB_length]; omega)] at hS
            simpa [padOf] using hS
          have hTl : n4 = (b ++ padOf b.length).length := by simp [padOf, lenB_length]; omega
          have HS2 := Calm.hid hS2
          have HTL := Calm.hid hTl
          clear hS hS2 hn4 hTl
          go_wp2
          go_ret
          have ho := HS2.out.own
          obtain ⟨q, c, hv, hby, hq⟩ := BytesOf.own ho
          simp only [Value.slice.injEq] at hv
          obtain ⟨rfl, h4, rfl⟩ := hv
          exact ⟨⟨_, _, by rw [h4]; rfl, hby, fun ad had => (hq ad had).2.2.1⟩, HS2.out.turns.below (fun _ _ h => h)⟩
end Go.Proofs.YtpbahoapjkmcjaaDoor
