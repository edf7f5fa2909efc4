/-
  A key with noughts behind it is the key, a long one is its digest, and the mac is the digest of the digest: the walk of MacKeys.
-/
import Derived.Test.YtpbahoapjkmcjaaDoorMacTellsW
namespace Go.Proofs.YtpbahoapjkmcjaaDoor
open Go.RowKit Go.Sha Go.Calm
theorem xor54 (y : UInt8) : bits .xor .u8 (B8 y) 54 = B8 (y ^^^ 54) := u8_bits_xor y 54
theorem xor92 (y : UInt8) : bits .xor .u8 (B8 y) 92 = B8 (y ^^^ 92) := u8_bits_xor y 92
attribute [local go_sem] xor54 xor92

theorem pad64_zeros {s : List UInt8} {j : Nat} (h : s.length + j ≤ 64) : pad64 (s ++ List.replicate j 0) = pad64 s := by
  unfold pad64
  rw [List.append_assoc, List.length_append, List.length_replicate, List.replicate_append_replicate]
  congr 2; omega
theorem short_of_le {s : List UInt8} (h : s.length ≤ 64) : short s = s := by unfold short; rw [if_neg (by omega)]
theorem macD_zeros {key b : List UInt8} {j : Nat} (h : (short key).length + j ≤ 64) : macD (short key ++ List.replicate j 0) b = macD key b := by
  unfold macD
  rw [short_of_le (s := short key ++ List.replicate j 0) (by rw [List.length_append, List.length_replicate]; exact h), pad64_zeros h]
theorem own_some {w : World} {base : Nat} {e : TypeId} {size : Nat} {v : Value} {k : Nat} {xs : List Value} (h : w.ownsRow base e size v k xs) (hk : 0 < k) : ∃ g cap, v = .slice (some ⟨g, 0, none⟩) k cap := by
  rcases h.2 with ⟨_, h0⟩ | ⟨g, cap, _, rfl, _⟩
  · omega
  · exact ⟨g, cap, rfl⟩
/-- Two rows of the call's own: the first i bytes of each are xored. -/
structure KX (w0 : World) (F : List UInt8) (gi go ci co : Nat) (i j : Nat) (wr : World) : Prop where
  inn : wr.ownsRow w0.heap.size 5 1 (.slice (some ⟨gi, 0, none⟩) 64 ci) 64 ((xorB 54 (F.take i) ++ F.drop i).map bv)
  out : wr.ownsRow w0.heap.size 5 1 (.slice (some ⟨go, 0, none⟩) 64 co) 64 ((xorB 92 (F.take j) ++ F.drop j).map bv)
  turns : Turns (fun _ => False) w0 wr
theorem halfX_get {F : List UInt8} {x : UInt8} {i : Nat} (hF : F.length = 64) (hi : i < 64) : ((xorB x (F.take i) ++ F.drop i).map bv)[i]? = some (bv (F.getD i 0)) := by
  rw [List.getElem?_map, List.getElem?_append_right (by rw [xorB_length, List.length_take]; omega), xorB_length, List.length_take, List.getElem?_drop]
  have : i + (i - min i F.length) = i := by omega
  rw [this]
  simp [show i < F.length by omega]
theorem halfX_set {F : List UInt8} {x : UInt8} {i : Nat} (hF : F.length = 64) (hi : i < 64) : ((xorB x (F.take i) ++ F.drop i).map bv).set i (bv (F.getD i 0 ^^^ x)) = (xorB x (F.take (i + 1)) ++ F.drop (i + 1)).map bv := by
  rw [← List.map_set, List.set_append_right _ _ (by rw [xorB_length, List.length_take]; omega), xorB_length, List.length_take, show i - min i F.length = 0 by omega, List.drop_eq_getElem_cons (by omega), List.set_cons_zero, xorB_take x F (by omega), List.append_assoc]
  rfl
theorem KX.cellI {w0 wr : World} {F : List UInt8} {gi go ci co i j : Nat} (h : KX w0 F gi go ci co i j wr) (hF : F.length = 64) (hi : i < 64) : wr.cell? ⟨gi, i, none⟩ = some (bv (F.getD i 0)) := by
  rw [h.inn.cellAt i (by omega), halfX_get hF hi]
theorem KX.cellO {w0 wr : World} {F : List UInt8} {gi go ci co i j : Nat} (h : KX w0 F gi go ci co i j wr) (hF : F.length = 64) (hj : j < 64) : wr.cell? ⟨go, j, none⟩ = some (bv (F.getD j 0)) := by
  rw [h.out.cellAt j (by omega), halfX_get hF hj]
theorem KX.stepI {w0 wr : World} {F : List UInt8} {gi go ci co i j : Nat} (h : KX w0 F gi go ci co i j wr) (hF : F.length = 64) (hi : i < 64) (hne : gi ≠ go) : KX w0 F gi go ci co (i + 1) j (wr.setCell ⟨gi, i, none⟩ (bv (F.getD i 0 ^^^ 54))) := by
  have hlt := (h.inn.lt gi rfl).1
  refine ⟨?_, own_setCell h.out (fun k hk => by simp [Value.ownBlock] at hk; subst hk; exact fun e => hne e.symm) _, h.turns.setCell (fun h => by simp at h; omega) _⟩
  have := (h.inn.stored i (bv (F.getD i 0 ^^^ 54))).1
  rw [halfX_set hF hi] at this
  exact this
theorem KX.stepO {w0 wr : World} {F : List UInt8} {gi go ci co i j : Nat} (h : KX w0 F gi go ci co i j wr) (hF : F.length = 64) (hj : j < 64) (hne : gi ≠ go) : KX w0 F gi go ci co i (j + 1) (wr.setCell ⟨go, j, none⟩ (bv (F.getD j 0 ^^^ 92))) := by
  have hlt := (h.out.lt go rfl).1
  refine ⟨own_setCell h.inn (fun k hk => by simp [Value.ownBlock] at hk; subst hk; exact hne) _, ?_, h.turns.setCell (fun h => by simp at h; omega) _⟩
  have := (h.out.stored j (bv (F.getD j 0 ^^^ 92))).1
  rw [halfX_set hF hj] at this
  exact this

set_option maxRecDepth 100000 in
set_option maxHeartbeats 2000000 in
theorem macKeys_walk (key : List UInt8) (kp : Option Addr) (kc : Nat) (b : List UInt8) (p : Option Addr) (c : Nat) (more : Int) (w : World) (hk : BytesOf w kp key.length kc key) (hb : BytesOf w p b.length c b) (hK : HasK w) :
    Calls Tryd.prog 11 #[.slice kp key.length kc, .slice p b.length c, .int .i64 more] w fun en w' => en = .returned (.bool true) ∧ Below w.heap.size w w' := by
  obtain ⟨i0, hi0, hz0, hz1, hz2⟩ := info_parts Tryd.info5
  have HKY := Calm.hid hk
  have HB := Calm.hid hb
  have HK := Calm.hid hK
  have hguard := Tryd.noGuard25
  clear hk hb hK
  by_cases h1 : 8192 < key.length
  · have hd : decide (8192 < (key.length : Int)) = true := by simp; omega
    go_enter Tryd.func11, Tryd.ntmps11
    go_wp2_with fail
    refine (wakes2_any w HK.out).mono ?_
    rintro en w2 ⟨rfl, hb2⟩
    have HB2 := Calm.hid hb2
    clear hb2
    go_wp2
    go_ret
    exact ⟨rfl, HB2.out⟩
  by_cases h2 : 8192 < b.length
  · have hd : decide (8192 < (key.length : Int)) = false := by simp; omega
    have hd2 : decide (8192 < (b.length : Int)) = true := by simp; omega
    go_enter Tryd.func11, Tryd.ntmps11
    go_wp2_with fail
    refine (wakes2_any w HK.out).mono ?_
    rintro en w2 ⟨rfl, hb2⟩
    have HB2 := Calm.hid hb2
    clear hb2
    go_wp2
    go_ret
    exact ⟨rfl, HB2.out⟩
  have hd : decide (8192 < (key.length : Int)) = false := by simp; omega
  have hd2 : decide (8192 < (b.length : Int)) = false := by simp; omega
  go_enter Tryd.func11, Tryd.ntmps11
  go_wp2_with fail
  refine (macOf_n key b key.length b.length kp p kc c w HKY.out HB.out (by omega) (by omega) HK.out).mono ?_
  rintro en w2 ⟨rfl, hb2⟩
  have HB2 := Calm.hid hb2
  clear hb2 hd hd2
  obtain ⟨m, hm⟩ : ∃ m, m = macD key b := ⟨_, rfl⟩
  have HML : Hid (m.length = 32) := by show m.length = 32; rw [hm, macD_length]
  rw [← hm]
  have HM := Calm.hid hm
  clear hm
  have HZ2 : Hid (Rw (w2.alloc (.cells #[.int .u8 0, .int .u8 0, .int .u8 0, .int .u8 0, .int .u8 0, .int .u8 0, .int .u8 0, .int .u8 0, .int .u8 0, .int .u8 0, .int .u8 0, .int .u8 0, .int .u8 0, .int .u8 0, .int .u8 0, .int .u8 0, .int .u8 0, .int .u8 0, .int .u8 0, .int .u8 0, .int .u8 0, .int .u8 0, .int .u8 0, .int .u8 0, .int .u8 0, .int .u8 0, .int .u8 0, .int .u8 0, .int .u8 0, .int .u8 0, .int .u8 0, .int .u8 0] 25)) w2.heap.size (zero32.map bv) 25) := Rw.new w2 _ 25
  go_wp2_with (first
    | (refine wpList_store_rw rfl 25 (.tmp 7) (.tmp 26) rfl w2.heap.size (m.map bv) rfl rfl 25 _ HZ2.out (by rw [List.length_map, HML.out]; kernel_rfl) (by rw [List.length_map, List.length_map, HML.out]; rfl) (BytesOf.one _) ?_; intro w3 hr3 ht3; have HB3 := Calm.hid (HB2.out.trans ((new_stored ht3).mono HB2.out.size)); have HR3 := Calm.hid hr3; have HKY3 := Calm.hid (HKY.out.below HB3.out); clear hr3 ht3; refine wpList_nil ?_)
    | (at_builtin; refine wpList_append_any rfl (.const (.slice none 0 0)) (.tmp 27) 22 rfl w3.heap.size 5 i0 (.int .u8 0) 1 1 Tryd.underlying22 hi0 hz0 hz1 hz2 rfl (by decide) _ _ _ rfl (World.ownsRow_nil _ _ _ _) kp key.length kc (key.map bv) rfl (by simp) HKY3.out.nil HKY3.out.news (BytesOf.one _) ?_ ?_ ?_ ?_))
  case refine_1 => simp [maxLen]; omega
  case refine_2 => simp; omega
  case refine_3 => exact Nat.le_refl _
  intro v4 w4 hown4 hg4
  have hf4 : FL w3 v4 key w4 := ⟨by simpa using hown4, Turns.of_below (below_nil hg4)⟩
  obtain ⟨p4, c4, hv4, _, _⟩ := BytesOf.own hf4.own
  subst hv4
  have HF4 := Calm.hid hf4
  clear hown4 hg4 hf4
  obtain ⟨s, hs⟩ : ∃ s, s = short key := ⟨_, rfl⟩
  have HSL : Hid (s.length ≤ 64) := by show s.length ≤ 64; rw [hs]; exact short_length key
  have HMZ : Hid (∀ j, s.length + j ≤ 64 → macD (s ++ List.replicate j 0) b = m) := fun j hj => by rw [HM.out, hs]; exact macD_zeros (by rw [← hs]; exact hj)
  have HPAD : Hid (∀ j, s.length + j = 64 → s ++ List.replicate j 0 = pad64 s) := fun j hj => by unfold pad64; rw [show 64 - s.length = j by omega]
  have HMD : Hid (digest (xorB 92 (pad64 s) ++ digest (xorB 54 (pad64 s) ++ b)) = m) := by show _ = m; rw [HM.out, macD, hs]
  have HR3B : Hid (∀ wr, Turns (fun _ => False) w3 wr → Rw wr w2.heap.size (m.map bv) 25) := fun wr ht => HR3.out.turns ht (fun h => h)
  have HKW : Hid (∀ wr, Turns (fun _ => False) w3 wr → HasK wr) := fun wr ht => (HK.out.below HB3.out).turns ht (fun h => h)
  have HBW : Hid (∀ wr, Turns (fun _ => False) w3 wr → BytesOf wr p b.length c b) := fun wr ht => (HB.out.below HB3.out).turns ht (fun _ _ _ h => h)
  have hb0 := b.length
  by_cases h64 : 64 < key.length
  · have hd : decide (64 < (key.length : Int)) = true := by simp; omega
    have HSD : Hid (s = digest key) := by show s = digest key; rw [hs, short, if_pos h64]
    have HS32 : Hid (s.length = 32) := by show s.length = 32; rw [HSD.out, digest_length]
    clear hs
    go_wp2_with fail
    refine (of_n key key.length kp kc w4 ((HKY3.out).turns HF4.out.turns (fun _ _ _ h => h)) (by omega) (HKW.out _ HF4.out.turns)).mono ?_
    rintro en w5 ⟨rfl, hb5⟩
    rw [← HSD.out]
    have HT5 : Hid (Turns (fun _ => False) w3 w5) := HF4.out.turns.trans (Turns.of_below hb5)
    clear hb5
    have HZ5 : Hid (Rw (w5.alloc (.cells #[.int .u8 0, .int .u8 0, .int .u8 0, .int .u8 0, .int .u8 0, .int .u8 0, .int .u8 0, .int .u8 0, .int .u8 0, .int .u8 0, .int .u8 0, .int .u8 0, .int .u8 0, .int .u8 0, .int .u8 0, .int .u8 0, .int .u8 0, .int .u8 0, .int .u8 0, .int .u8 0, .int .u8 0, .int .u8 0, .int .u8 0, .int .u8 0, .int .u8 0, .int .u8 0, .int .u8 0, .int .u8 0, .int .u8 0, .int .u8 0, .int .u8 0, .int .u8 0] 25)) w5.heap.size (zero32.map bv) 25) := Rw.new w5 _ 25
    go_wp2_with (first
      | (refine wpList_store_rw rfl 25 (.tmp 9) (.tmp 33) rfl w5.heap.size (s.map bv) rfl rfl 25 _ HZ5.out (by rw [List.length_map, HS32.out]; kernel_rfl) (by rw [List.length_map, List.length_map, HS32.out]; rfl) (BytesOf.one _) ?_; intro w6 hr6 ht6; have HT6 : Hid (Turns (fun _ => False) w3 w6) := HT5.out.trans (Turns.of_below (new_stored ht6)); have HD6 : Hid (BytesOf w6 (some ⟨w5.heap.size, 0, none⟩) 32 32 s) := rw_bytes hr6 HS32.out (Nat.le_refl _) (by decide); clear hr6 ht6; refine wpList_nil ?_)
      | (at_builtin; refine wpList_append_any rfl (.const (.slice none 0 0)) (.tmp 34) 22 rfl w6.heap.size 5 i0 (.int .u8 0) 1 1 Tryd.underlying22 hi0 hz0 hz1 hz2 rfl (by decide) _ _ _ rfl (World.ownsRow_nil _ _ _ _) (some ⟨w5.heap.size, 0, none⟩) 32 32 (s.map bv) rfl (by rw [List.length_map, HS32.out]) HD6.out.nil HD6.out.news (BytesOf.one _) ?_ ?_ ?_ ?_))
    case refine_1 => simp [maxLen]
    case refine_2 => simp
    case refine_3 => exact Nat.le_refl _
    intro v7 w7 hown7 hg7
    have hown7' : w7.ownsRow w6.heap.size 5 1 v7 s.length (s.map bv) := by rw [HS32.out]; simpa using hown7
    have hf7 : FL w3 v7 s w7 := ⟨own_base hown7' (fun k hk => by have := (hown7'.lt k hk).1; have := HT6.out.size; omega), HT6.out.trans (Turns.of_below (below_nil hg7))⟩
    obtain ⟨p7, c7, hv7, hby7, _⟩ := BytesOf.own hf7.own
    subst hv7
    have HF7 := Calm.hid hf7
    have HY7 := Calm.hid hby7
    clear hown7 hg7 hf7 hown7' hby7
    go_wp2_with fail
    have ho9 : ∀ q : Kept w7, Calls Tryd.prog 21 #[.slice p7 s.length c7, .slice p b.length c] q.world fun en w' => en = .returned (.agg (arr m)) ∧ Below q.world.heap.size q.world w' := fun q => by
      have h := macOf_n s b s.length b.length p7 p c7 c q.world (HY7.out.below q.below) ((HBW.out _ HF7.out.turns).below q.below) (by rw [HS32.out]; decide) (by omega) ((HKW.out _ HF7.out.turns).below q.below)
      have e := HMZ.out 0 (by rw [HS32.out]; decide)
      rw [List.replicate_zero, List.append_nil] at e
      rwa [e] at h
    have hl9 : ∀ q : Kept w7, (Instr.loadAt 25 (.pointer (some ⟨w2.heap.size, 0, none⟩))).run Tryd.prog q.world = .ok (.agg (arr m)) q.world := fun q => load25 ((HR3B.out _ HF7.out.turns).below q.below) HML.out
    have he9 := fun w => eq25 m m HML.out HML.out w
    rw [decide_eq_true rfl] at he9
    have HO9 := Calm.hid ho9
    have HL9 := Calm.hid hl9
    clear ho9 hl9
    refine Calm.region_k 5 (by kernel_rfl) (by kernel_rfl) ?_
    simp only [List.take_succ_cons, List.take_zero, List.drop_succ_cons, List.drop_zero]
    repeat (go_big_quiet_step (first | (go_at_call 21; exact Kept.call (HO9.out _))))
    refine wpQuiet_load rfl 25 (.tmp 7) rfl w2.heap.size rfl _ (by rintro _ ⟨q, rfl⟩; exact HL9.out q) ?_
    go_frame
    repeat (go_big_quiet_step (fail))
    refine wpQuiet_nil ?_
    rintro _ ⟨nq, rfl⟩
    refine wpList_nil ?_
    clear he9 HO9 HL9
    have HJ : Hid (FL w3 (.slice p7 s.length c7) s nq.world) := ⟨own_turns HF7.out.own (Turns.of_below nq.below) (fun _ _ h => h), HF7.out.turns.trans (Turns.of_below nq.below)⟩
    have HNK : Hid (s.length = s.length) := rfl
    clear hd HF4
    obtain ⟨k, hk, hr⟩ := tmod_cases more 65 (by decide)
    have hkd : decide ((k : Int) < 0) = false := by simp
    rcases hr with hr | ⟨hr, hk0⟩
    all_goals
      go_wp2
      go_loopw [8] (fun v wr => ∃ (j : Nat) (p : Option Addr) (n c : Nat), v = .slice p n c ∧ n = s.length + j ∧ n ≤ 64 ∧ FL w3 (.slice p n c) (s ++ List.replicate j 0) wr) (fun v _ => 65 - sliceLen v)
      case atStart => exact ⟨0, _, _, _, rfl, by have := HNK.out; omega, by have := HNK.out; have := HSL.out; omega, by simpa using HJ.out⟩
      case round =>
        obtain ⟨j, pl, nl, cl, rfl, hn, hl, hL⟩ := hrel
        clear HJ
        by_cases hlt : nl < k
        · skip
          have HTL : Hid ((s ++ List.replicate j 0).length = nl) := by show _ = _; rw [List.length_append, List.length_replicate]; exact hn.symm
          have HO : Hid (wr.ownsRow w3.heap.size 5 1 (.slice pl nl cl) nl ((s ++ List.replicate j 0).map bv)) := by have := hL.own; rw [HTL.out] at this; exact this
          have HL := Calm.hid hL
          have HN := Calm.hid hn
          clear hL hn
          go_wp2_with (at_builtin; refine wpList_append_any rfl (.tmp 51) (.tmp 52) 22 rfl w3.heap.size 5 i0 (.int .u8 0) 1 1 Tryd.underlying22 hi0 hz0 hz1 hz2 rfl (by decide) _ _ _ rfl (HO.out.alloc _) (some ⟨wr.heap.size, 0, none⟩) 1 1 [bv 0] rfl rfl (by simp) (one_news _ _ _) (by simp [Value.oneCell']) ?_ ?_ ?_ ?_)
          case refine_1 => simp [maxLen]; omega
          case refine_2 => simp; omega
          case refine_3 => have := HL.out.turns.size; simp; omega
          intro v8 w8 hown8 hg8
          obtain ⟨p8, c8, hv8, hf8⟩ := HL.out.grow (x := 0) HTL.out.symm hg8 (by simpa using hown8)
          rw [List.append_assoc, ← List.replicate_succ'] at hf8
          have HF8 := Calm.hid hf8
          clear hown8 hg8 hf8
          rw [hv8]
          go_wp2
          go_roundw
          case rel => exact ⟨j + 1, _, _, _, rfl, by have := HN.out; omega, by omega, HF8.out⟩
          case measure => simp [sliceLen]; omega
        · have HTL : Hid ((s ++ List.replicate j 0).length = nl) := by show _ = _; rw [List.length_append, List.length_replicate]; exact hn.symm
          obtain ⟨pl', cl', hv, hby, _⟩ := BytesOf.own hL.own
          rw [HTL.out] at hv hby
          simp only [Value.slice.injEq, true_and] at hv
          obtain ⟨rfl, rfl⟩ := hv
          have HBY := Calm.hid hby
          have HL := Calm.hid hL
          have HJN : Hid (s.length + j ≤ 64) := show s.length + j ≤ 64 by omega
          have HN := Calm.hid hn
          clear hL hby hn hr hkd
          go_wp2_with fail
          have ho9 : ∀ q : Kept wr, Calls Tryd.prog 21 #[.slice pl nl cl, .slice p b.length c] q.world fun en w' => en = .returned (.agg (arr m)) ∧ Below q.world.heap.size q.world w' := fun q => by
            have h := macOf_n (s ++ List.replicate j 0) b nl b.length pl p cl c q.world (HBY.out.below q.below) ((HBW.out _ HL.out.turns).below q.below) (by rw [HTL.out]; omega) (by omega) ((HKW.out _ HL.out.turns).below q.below)
            rwa [HMZ.out j HJN.out] at h
          have hl9 : ∀ q : Kept wr, (Instr.loadAt 25 (.pointer (some ⟨w2.heap.size, 0, none⟩))).run Tryd.prog q.world = .ok (.agg (arr m)) q.world := fun q => load25 ((HR3B.out _ HL.out.turns).below q.below) HML.out
          have he9 := fun w => eq25 m m HML.out HML.out w
          rw [decide_eq_true rfl] at he9
          have HO9 := Calm.hid ho9
          have HL9 := Calm.hid hl9
          clear ho9 hl9
          refine Calm.region_k 5 (by kernel_rfl) (by kernel_rfl) ?_
          simp only [List.take_succ_cons, List.take_zero, List.drop_succ_cons, List.drop_zero]
          repeat (go_big_quiet_step (first | (go_at_call 21; exact Kept.call (HO9.out _))))
          refine wpQuiet_load rfl 25 (.tmp 7) rfl w2.heap.size rfl _ (by rintro _ ⟨q, rfl⟩; exact HL9.out q) ?_
          go_frame
          repeat (go_big_quiet_step (fail))
          refine wpQuiet_nil ?_
          rintro _ ⟨nq, rfl⟩
          refine wpList_nil ?_
          clear he9 HO9 HL9
          have HJ2 : Hid (FL w3 (.slice pl nl cl) (s ++ List.replicate j 0) nq.world) := ⟨own_turns HL.out.own (Turns.of_below nq.below) (fun _ _ h => h), HL.out.turns.trans (Turns.of_below nq.below)⟩
          clear HL HTL HBY
          go_wp2
          go_loopw [8] (fun v wr => ∃ (j : Nat) (p : Option Addr) (n c : Nat), v = .slice p n c ∧ n = s.length + j ∧ n ≤ 64 ∧ FL w3 (.slice p n c) (s ++ List.replicate j 0) wr) (fun v _ => 65 - sliceLen v)
          case atStart => exact ⟨j, _, _, _, rfl, HN.out, hl, HJ2.out⟩
          case round =>
            clear HN HJN HJ2
            obtain ⟨j, pl, nl, cl, rfl, hn, hl, hL⟩ := hrel
            by_cases hlt : nl < 64
            · skip
              have HTL : Hid ((s ++ List.replicate j 0).length = nl) := by show _ = _; rw [List.length_append, List.length_replicate]; exact hn.symm
              have HO : Hid (wr.ownsRow w3.heap.size 5 1 (.slice pl nl cl) nl ((s ++ List.replicate j 0).map bv)) := by have := hL.own; rw [HTL.out] at this; exact this
              have HL := Calm.hid hL
              have HN := Calm.hid hn
              clear hL hn
              go_wp2_with (at_builtin; refine wpList_append_any rfl (.tmp 62) (.tmp 63) 22 rfl w3.heap.size 5 i0 (.int .u8 0) 1 1 Tryd.underlying22 hi0 hz0 hz1 hz2 rfl (by decide) _ _ _ rfl (HO.out.alloc _) (some ⟨wr.heap.size, 0, none⟩) 1 1 [bv 0] rfl rfl (by simp) (one_news _ _ _) (by simp [Value.oneCell']) ?_ ?_ ?_ ?_)
              case refine_1 => simp [maxLen]; omega
              case refine_2 => simp; omega
              case refine_3 => have := HL.out.turns.size; simp; omega
              intro v8 w8 hown8 hg8
              obtain ⟨p8, c8, hv8, hf8⟩ := HL.out.grow (x := 0) HTL.out.symm hg8 (by simpa using hown8)
              rw [List.append_assoc, ← List.replicate_succ'] at hf8
              have HF8 := Calm.hid hf8
              clear hown8 hg8 hf8
              rw [hv8]
              go_wp2
              go_roundw
              case rel => exact ⟨j + 1, _, _, _, rfl, by have := HN.out; omega, by omega, HF8.out⟩
              case measure => simp [sliceLen]; omega
            · have HNL : Hid (nl = 64) := show nl = 64 by omega
              skip
              obtain ⟨F, hF⟩ : ∃ F, F = pad64 s := ⟨_, rfl⟩
              have HFL : Hid (F.length = 64) := by show F.length = 64; rw [hF]; exact pad64_length HSL.out
              have hLF : FL w3 (.slice pl 64 cl) F wr := by
                have e := HPAD.out j (by rw [← hn]; exact HNL.out)
                rw [hF, ← e, ← HNL.out]; exact hL
              obtain ⟨pl', cl', hv, hby, _⟩ := BytesOf.own hLF.own
              rw [HFL.out] at hv hby
              simp only [Value.slice.injEq, true_and] at hv
              obtain ⟨rfl, rfl⟩ := hv
              have HMF : Hid (digest (xorB 92 F ++ digest (xorB 54 F ++ b)) = m) := by show _ = m; rw [hF]; exact HMD.out
              have HT := Calm.hid hLF.turns
              have HY := Calm.hid hby
              rw [HNL.out]
              clear hF hLF hby hL hn
              go_wp2_with (at_builtin; refine wpList_append_any rfl (.const (.slice none 0 0)) (.tmp 65) 22 rfl wr.heap.size 5 i0 (.int .u8 0) 1 1 Tryd.underlying22 hi0 hz0 hz1 hz2 rfl (by decide) _ _ _ rfl (World.ownsRow_nil _ _ _ _) pl 64 cl (F.map bv) rfl (by rw [List.length_map, HFL.out]) HY.out.nil HY.out.news (BytesOf.one _) ?_ ?_ ?_ ?_)
              case refine_1 => simp [maxLen]
              case refine_2 => simp
              case refine_3 => exact Nat.le_refl _
              intro va wa howna hga
              have hwa : Below wr.heap.size wr wa := below_nil hga
              obtain ⟨gi, ci, rfl⟩ := own_some (show wa.ownsRow wr.heap.size 5 1 va 64 (F.map bv) by simpa using howna) (by decide)
              have HIN : Hid (wa.ownsRow wr.heap.size 5 1 (.slice (some ⟨gi, 0, none⟩) 64 ci) 64 (F.map bv)) := by show wa.ownsRow wr.heap.size 5 1 (.slice (some ⟨gi, 0, none⟩) 64 ci) 64 (F.map bv); simpa using howna
              have HTA : Hid (Turns (fun _ => False) w3 wa) := HT.out.trans (Turns.of_below hwa)
              have HYA := Calm.hid (HY.out.below hwa)
              clear howna hga hwa
              go_wp2_with (at_builtin; refine wpList_append_any rfl (.const (.slice none 0 0)) (.tmp 67) 22 rfl wa.heap.size 5 i0 (.int .u8 0) 1 1 Tryd.underlying22 hi0 hz0 hz1 hz2 rfl (by decide) _ _ _ rfl (World.ownsRow_nil _ _ _ _) pl 64 cl (F.map bv) rfl (by rw [List.length_map, HFL.out]) HYA.out.nil HYA.out.news (BytesOf.one _) ?_ ?_ ?_ ?_)
              case refine_1 => simp [maxLen]
              case refine_2 => simp
              case refine_3 => exact Nat.le_refl _
              intro vb wb hownb hgb
              have hwb : Below wa.heap.size wa wb := below_nil hgb
              obtain ⟨go, co, rfl⟩ := own_some (show wb.ownsRow wa.heap.size 5 1 vb 64 (F.map bv) by simpa using hownb) (by decide)
              have hOUT : wb.ownsRow wa.heap.size 5 1 (.slice (some ⟨go, 0, none⟩) 64 co) 64 (F.map bv) := by simpa using hownb
              have HGO : Hid (gi ≠ go) := by show gi ≠ go; have h1 := (HIN.out.lt gi rfl).2; have h2 := (hOUT.lt go rfl).1; omega
              have hx : KX w3 F gi go ci co 0 0 wb := by
                have e : ∀ x, xorB x (F.take 0) ++ F.drop 0 = F := fun x => by simp [xorB]
                refine ⟨?_, ?_, HTA.out.trans (Turns.of_below hwb)⟩
                · rw [e]; exact own_base (own_turns HIN.out (Turns.of_below (R := fun _ => False) hwb) (fun _ _ h => h)) (fun k hk => by have := (HIN.out.lt k hk).1; have := HT.out.size; omega)
                · rw [e]; exact own_base hOUT (fun k hk => by have := (hOUT.lt k hk).1; have := HTA.out.size; omega)
              have HX := Calm.hid hx
              clear hownb hgb hwb hOUT hx HIN
              go_wp2
              go_loopw [13] (fun t wr => ∃ i : Nat, i ≤ 64 ∧ t = .int .i64 i ∧ KX w3 F gi go ci co i i wr) (fun t _ => 64 - (intOf t).toNat)
              case atStart => exact ⟨0, by omega, rfl, HX.out⟩
              case round =>
                obtain ⟨i, hi, rfl, hL⟩ := hrel
                clear HX
                by_cases hlt : i < 64
                · have h2 := hL.stepI HFL.out hlt HGO.out
                  have h3 := h2.stepO HFL.out hlt HGO.out
                  have c0 := hL.cellI HFL.out hlt
                  have f0 := hL.inn.frozenAt i
                  have c1 := h2.cellO HFL.out hlt
                  have f1 := h2.out.frozenAt i
                  obtain ⟨y, hy⟩ : ∃ y, y = F.getD i 0 := ⟨_, rfl⟩
                  rw [← hy] at h2 h3 c0 c1 f1
                  have H3 := Calm.hid h3
                  clear hy h2 h3 hL
                  go_wp2
                  go_roundw
                  case rel => exact ⟨i + 1, by omega, by go_num, H3.out⟩
                  case measure => simp [intOf]; omega
                · have HI : Hid (i = 64) := show i = 64 by omega
                  rw [HI.out] at hL
                  have HBX := Calm.hid (HBW.out _ hL.turns)
                  have hin : wr.ownsRow w3.heap.size 5 1 (.slice (some ⟨gi, 0, none⟩) 64 ci) 64 ((xorB 54 F).map bv) := by
                    have := hL.inn
                    rwa [List.take_of_length_le (by rw [HFL.out]; exact Nat.le_refl _), List.drop_of_length_le (by rw [HFL.out]; exact Nat.le_refl _), List.append_nil] at this
                  have hout : wr.ownsRow w3.heap.size 5 1 (.slice (some ⟨go, 0, none⟩) 64 co) 64 ((xorB 92 F).map bv) := by
                    have := hL.out
                    rwa [List.take_of_length_le (by rw [HFL.out]; exact Nat.le_refl _), List.drop_of_length_le (by rw [HFL.out]; exact Nat.le_refl _), List.append_nil] at this
                  have HX54 : Hid ((xorB 54 F).length = 64) := by show _ = _; rw [xorB_length, HFL.out]
                  have HX92 : Hid ((xorB 92 F).length = 64) := by show _ = _; rw [xorB_length, HFL.out]
                  have HIN := Calm.hid hin
                  have HOUT := Calm.hid hout
                  have HTR := Calm.hid hL.turns
                  clear hL hin hout
                  go_wp2_with (at_builtin; refine wpList_append_any rfl (.tmp 89) (.tmp 90) 22 rfl w3.heap.size 5 i0 (.int .u8 0) 1 1 Tryd.underlying22 hi0 hz0 hz1 hz2 rfl (by decide) _ _ _ rfl HIN.out p b.length c (b.map bv) rfl (by simp) HBX.out.nil HBX.out.news (BytesOf.one _) ?_ ?_ ?_ ?_)
                  case refine_1 => simp [maxLen]; omega
                  case refine_2 => simp; omega
                  case refine_3 => exact HTR.out.size
                  intro vd wd hownd hgd
                  have hfl : FL w3 (.slice (some ⟨gi, 0, none⟩) 64 ci) (xorB 54 F) wr := ⟨by rw [HX54.out]; exact HIN.out, HTR.out⟩
                  have hld : (xorB 54 F ++ b).length = 64 + b.length := by rw [List.length_append, HX54.out]
                  obtain ⟨pd, cd, hvd, hfd, hbyd⟩ := hfl.grown (X := b) hgd (by rw [hld, List.map_append]; exact hownd)
                  rw [hld] at hvd hbyd
                  subst hvd
                  have hod : wd.ownsRow w3.heap.size 5 1 (.slice (some ⟨go, 0, none⟩) 64 co) 64 ((xorB 92 F).map bv) := own_turns HOUT.out (Turns.of_grown (R := fun k => k = gi) hgd (fun k hk _ => by simp [Value.ownBlock] at hk; omega)) (fun k hk e => by simp [Value.ownBlock] at hk; exact HGO.out (by omega))
                  have HOD := Calm.hid hod
                  have HYD := Calm.hid hbyd
                  have HTD := Calm.hid hfd.turns
                  have HLD := Calm.hid hld
                  clear hownd hgd hfl hld hfd hbyd hod
                  go_wp2_with fail
                  refine (of_n (xorB 54 F ++ b) (64 + b.length) pd cd wd HYD.out (by rw [HLD.out]; omega) (HKW.out _ HTD.out)).mono ?_
                  rintro en we ⟨rfl, hbe⟩
                  obtain ⟨dd, hdd⟩ : ∃ dd, dd = digest (xorB 54 F ++ b) := ⟨_, rfl⟩
                  have HDL : Hid (dd.length = 32) := by show dd.length = 32; rw [hdd, digest_length]
                  have HMF2 : Hid (digest (xorB 92 F ++ dd) = m) := by show _ = m; rw [hdd]; exact HMF.out
                  rw [← hdd]
                  have HTE : Hid (Turns (fun _ => False) w3 we) := HTD.out.trans (Turns.of_below hbe)
                  have HOE := Calm.hid (own_turns HOD.out (Turns.of_below (R := fun _ => False) hbe) (fun _ _ h => h))
                  clear hdd hbe
                  have HZE : Hid (Rw (we.alloc (.cells #[.int .u8 0, .int .u8 0, .int .u8 0, .int .u8 0, .int .u8 0, .int .u8 0, .int .u8 0, .int .u8 0, .int .u8 0, .int .u8 0, .int .u8 0, .int .u8 0, .int .u8 0, .int .u8 0, .int .u8 0, .int .u8 0, .int .u8 0, .int .u8 0, .int .u8 0, .int .u8 0, .int .u8 0, .int .u8 0, .int .u8 0, .int .u8 0, .int .u8 0, .int .u8 0, .int .u8 0, .int .u8 0, .int .u8 0, .int .u8 0, .int .u8 0, .int .u8 0] 25)) we.heap.size (zero32.map bv) 25) := Rw.new we _ 25
                  go_wp2_with (refine wpList_store_rw rfl 25 (.tmp 14) (.tmp 92) rfl we.heap.size (dd.map bv) rfl rfl 25 _ HZE.out (by rw [List.length_map, HDL.out]; kernel_rfl) (by rw [List.length_map, List.length_map, HDL.out]; rfl) (BytesOf.one _) ?_; intro wf hrf htf; have HTF : Hid (Turns (fun _ => False) w3 wf) := HTE.out.trans (Turns.of_below (new_stored htf)); have HDF := Calm.hid hrf; have HOF := Calm.hid (own_turns HOE.out (Turns.of_below (R := fun _ => False) (new_stored htf)) (fun _ _ h => h)); clear hrf htf; refine wpList_nil ?_)
                  have HBF : Hid (Below w3.heap.size w3 wf) := HTF.out.below (fun _ _ h => h)
                  have hl9 : ∀ q : KeptB w3.heap.size wf, (Instr.loadAt 25 (.pointer (some ⟨w2.heap.size, 0, none⟩))).run Tryd.prog q.world = .ok (.agg (arr m)) q.world := fun q => load25 (HR3.out.below (HBF.out.trans q.below)) HML.out
                  have he9 := fun w => eq25 m m HML.out HML.out w
                  rw [decide_eq_true rfl] at he9
                  have HL9 := Calm.hid hl9
                  have HE9 := Calm.hid he9
                  clear hl9 he9
                  go_frame
                  refine Calm.region_sb w3.heap.size [true, true, false, false, true, false, false, false, false, false] (by kernel_rfl) (by kernel_rfl) ?_
                  simp only [Calm.heads, Calm.tails]
                  repeat (go_big_quiet_step (fail))
                  refine wpQuiet_load rfl 25 (.tmp 7) rfl w2.heap.size rfl _ (by rintro _ ⟨q, rfl⟩; exact HL9.out q) ?_
                  refine wpQuiet_nil ?_
                  go_frame
                  have HDB : Hid (BytesOf wf.drew (some ⟨we.heap.size, 0, none⟩) 32 32 dd) := (rw_bytes HDF.out HDL.out (Nat.le_refl _) (by decide)).drewN 1
                  have HWF : Hid (Below w3.heap.size wf wf.drew) := (Below.refl _ _).drew
                  have HFO : Hid (FL w3 (.slice (some ⟨go, 0, none⟩) 64 co) (xorB 92 F) wf.drew) := ⟨by rw [HX92.out]; exact HOF.out, HTF.out.drew⟩
                  refine wpC_step (wpList_append_any rfl (.tmp 93) (.tmp 94) 22 rfl w3.heap.size 5 i0 (.int .u8 0) 1 1 Tryd.underlying22 hi0 hz0 hz1 hz2 rfl (by decide) _ _ _ rfl HOF.out (some ⟨we.heap.size, 0, none⟩) 32 32 (dd.map bv) rfl (by rw [List.length_map, HDL.out]) HDB.out.nil HDB.out.news (BytesOf.one _) ?_ ?_ ?_ ?_)
                  · simp [maxLen]
                  · simp
                  · exact HTF.out.size
                  intro vg wg howng hgg
                  have hlg : (xorB 92 F ++ dd).length = 96 := by rw [List.length_append, HX92.out, HDL.out]
                  obtain ⟨pg, cg, hvg, hfg, hbyg⟩ := HFO.out.grown (X := dd) hgg (by rw [hlg, List.map_append]; exact howng)
                  rw [hlg] at hvg hbyg
                  have hog := (HFO.out.own.lt go rfl).1
                  have HBG : Hid (Below w3.heap.size wf wg) := HWF.out.trans ⟨hgg.os, hgg.tape, hgg.output, hgg.size, fun k hk => hgg.block k (Nat.lt_of_lt_of_le hk HTF.out.size) (fun e => by have := (HFO.out.own.lt k e.symm).1; omega)⟩
                  have HYG := Calm.hid hbyg
                  have HLG := Calm.hid hlg
                  have HTG := Calm.hid hfg.turns
                  clear howng hgg hfg hbyg hlg hog
                  refine wpList_nil ⟨rfl, rfl, ⟨⟨_, HBG.out⟩, rfl⟩, ?_⟩
                  subst hvg
                  refine wpC_step ?_
                  go_wp2_with fail
                  refine (of_n (xorB 92 F ++ dd) 96 pg cg wg HYG.out (by rw [HLG.out]; omega) (HKW.out _ HTG.out)).mono ?_
                  rintro en wh ⟨rfl, hbh⟩
                  rw [HMF2.out]
                  have HBH : Hid (Below w3.heap.size wf wh) := HBG.out.trans (hbh.mono HTG.out.size)
                  clear hbh
                  go_wp2
                  refine ⟨⟨⟨wh, HBH.out⟩, rfl⟩, ?_⟩
                  have he9 := HE9.out
                  refine wpC_step ?_
                  go_wp2
                  refine ⟨⟨⟨wh, HBH.out⟩, rfl⟩, ?_⟩
                  clear he9
                  refine wpC_step ?_
                  go_wp2
                  refine ⟨⟨⟨wh, HBH.out⟩, rfl⟩, ?_⟩
                  refine wpC_step ?_
                  go_wp2_with fail
                  have HBW3 : Hid (Below w3.heap.size w3 wh) := HBF.out.trans HBH.out
                  refine (wakes2_any wh ((HK.out.below HB3.out).below HBW3.out)).mono ?_
                  rintro en wi ⟨rfl, hbi⟩
                  have HBI : Hid (Below w3.heap.size wf wi) := HBH.out.trans (hbi.mono HBW3.out.size)
                  clear hbi
                  go_wp2
                  refine ⟨⟨⟨wi, HBI.out⟩, rfl⟩, ?_⟩
                  refine wpC_step ?_
                  go_wp2
                  refine ⟨⟨⟨wi, HBI.out⟩, rfl⟩, ?_⟩
                  refine wpC_step ?_
                  go_wp2
                  refine ⟨⟨⟨wi, HBI.out⟩, rfl⟩, ?_⟩
                  refine wpC_nil ?_
                  go_wp2
                  go_ret
                  exact ⟨rfl, HB3.out.trans ((HBF.out.trans HBI.out).mono HB3.out.size)⟩
  · have hd : decide (64 < (key.length : Int)) = false := by simp; omega
    have HSD : Hid (s = key) := by show s = key; rw [hs, short, if_neg h64]
    have HJ : Hid (FL w3 (.slice p4 key.length c4) s w4) := by rw [HSD.out]; exact HF4.out
    have HNK : Hid (key.length = s.length) := by rw [HSD.out]; rfl
    clear hs
    obtain ⟨k, hk, hr⟩ := tmod_cases more 65 (by decide)
    have hkd : decide ((k : Int) < 0) = false := by simp
    rcases hr with hr | ⟨hr, hk0⟩
    all_goals
      go_wp2
      go_loopw [8] (fun v wr => ∃ (j : Nat) (p : Option Addr) (n c : Nat), v = .slice p n c ∧ n = s.length + j ∧ n ≤ 64 ∧ FL w3 (.slice p n c) (s ++ List.replicate j 0) wr) (fun v _ => 65 - sliceLen v)
      case atStart => exact ⟨0, _, _, _, rfl, by have := HNK.out; omega, by have := HNK.out; have := HSL.out; omega, by simpa using HJ.out⟩
      case round =>
        obtain ⟨j, pl, nl, cl, rfl, hn, hl, hL⟩ := hrel
        clear HJ
        by_cases hlt : nl < k
        · skip
          have HTL : Hid ((s ++ List.replicate j 0).length = nl) := by show _ = _; rw [List.length_append, List.length_replicate]; exact hn.symm
          have HO : Hid (wr.ownsRow w3.heap.size 5 1 (.slice pl nl cl) nl ((s ++ List.replicate j 0).map bv)) := by have := hL.own; rw [HTL.out] at this; exact this
          have HL := Calm.hid hL
          have HN := Calm.hid hn
          clear hL hn
          go_wp2_with (at_builtin; refine wpList_append_any rfl (.tmp 51) (.tmp 52) 22 rfl w3.heap.size 5 i0 (.int .u8 0) 1 1 Tryd.underlying22 hi0 hz0 hz1 hz2 rfl (by decide) _ _ _ rfl (HO.out.alloc _) (some ⟨wr.heap.size, 0, none⟩) 1 1 [bv 0] rfl rfl (by simp) (one_news _ _ _) (by simp [Value.oneCell']) ?_ ?_ ?_ ?_)
          case refine_1 => simp [maxLen]; omega
          case refine_2 => simp; omega
          case refine_3 => have := HL.out.turns.size; simp; omega
          intro v8 w8 hown8 hg8
          obtain ⟨p8, c8, hv8, hf8⟩ := HL.out.grow (x := 0) HTL.out.symm hg8 (by simpa using hown8)
          rw [List.append_assoc, ← List.replicate_succ'] at hf8
          have HF8 := Calm.hid hf8
          clear hown8 hg8 hf8
          rw [hv8]
          go_wp2
          go_roundw
          case rel => exact ⟨j + 1, _, _, _, rfl, by have := HN.out; omega, by omega, HF8.out⟩
          case measure => simp [sliceLen]; omega
        · have HTL : Hid ((s ++ List.replicate j 0).length = nl) := by show _ = _; rw [List.length_append, List.length_replicate]; exact hn.symm
          obtain ⟨pl', cl', hv, hby, _⟩ := BytesOf.own hL.own
          rw [HTL.out] at hv hby
          simp only [Value.slice.injEq, true_and] at hv
          obtain ⟨rfl, rfl⟩ := hv
          have HBY := Calm.hid hby
          have HL := Calm.hid hL
          have HJN : Hid (s.length + j ≤ 64) := show s.length + j ≤ 64 by omega
          have HN := Calm.hid hn
          clear hL hby hn hr hkd
          go_wp2_with fail
          have ho9 : ∀ q : Kept wr, Calls Tryd.prog 21 #[.slice pl nl cl, .slice p b.length c] q.world fun en w' => en = .returned (.agg (arr m)) ∧ Below q.world.heap.size q.world w' := fun q => by
            have h := macOf_n (s ++ List.replicate j 0) b nl b.length pl p cl c q.world (HBY.out.below q.below) ((HBW.out _ HL.out.turns).below q.below) (by rw [HTL.out]; omega) (by omega) ((HKW.out _ HL.out.turns).below q.below)
            rwa [HMZ.out j HJN.out] at h
          have hl9 : ∀ q : Kept wr, (Instr.loadAt 25 (.pointer (some ⟨w2.heap.size, 0, none⟩))).run Tryd.prog q.world = .ok (.agg (arr m)) q.world := fun q => load25 ((HR3B.out _ HL.out.turns).below q.below) HML.out
          have he9 := fun w => eq25 m m HML.out HML.out w
          rw [decide_eq_true rfl] at he9
          have HO9 := Calm.hid ho9
          have HL9 := Calm.hid hl9
          clear ho9 hl9
          refine Calm.region_k 5 (by kernel_rfl) (by kernel_rfl) ?_
          simp only [List.take_succ_cons, List.take_zero, List.drop_succ_cons, List.drop_zero]
          repeat (go_big_quiet_step (first | (go_at_call 21; exact Kept.call (HO9.out _))))
          refine wpQuiet_load rfl 25 (.tmp 7) rfl w2.heap.size rfl _ (by rintro _ ⟨q, rfl⟩; exact HL9.out q) ?_
          go_frame
          repeat (go_big_quiet_step (fail))
          refine wpQuiet_nil ?_
          rintro _ ⟨nq, rfl⟩
          refine wpList_nil ?_
          clear he9 HO9 HL9
          have HJ2 : Hid (FL w3 (.slice pl nl cl) (s ++ List.replicate j 0) nq.world) := ⟨own_turns HL.out.own (Turns.of_below nq.below) (fun _ _ h => h), HL.out.turns.trans (Turns.of_below nq.below)⟩
          clear HL HTL HBY
          go_wp2
          go_loopw [8] (fun v wr => ∃ (j : Nat) (p : Option Addr) (n c : Nat), v = .slice p n c ∧ n = s.length + j ∧ n ≤ 64 ∧ FL w3 (.slice p n c) (s ++ List.replicate j 0) wr) (fun v _ => 65 - sliceLen v)
          case atStart => exact ⟨j, _, _, _, rfl, HN.out, hl, HJ2.out⟩
          case round =>
            clear HN HJN HJ2
            obtain ⟨j, pl, nl, cl, rfl, hn, hl, hL⟩ := hrel
            by_cases hlt : nl < 64
            · skip
              have HTL : Hid ((s ++ List.replicate j 0).length = nl) := by show _ = _; rw [List.length_append, List.length_replicate]; exact hn.symm
              have HO : Hid (wr.ownsRow w3.heap.size 5 1 (.slice pl nl cl) nl ((s ++ List.replicate j 0).map bv)) := by have := hL.own; rw [HTL.out] at this; exact this
              have HL := Calm.hid hL
              have HN := Calm.hid hn
              clear hL hn
              go_wp2_with (at_builtin; refine wpList_append_any rfl (.tmp 62) (.tmp 63) 22 rfl w3.heap.size 5 i0 (.int .u8 0) 1 1 Tryd.underlying22 hi0 hz0 hz1 hz2 rfl (by decide) _ _ _ rfl (HO.out.alloc _) (some ⟨wr.heap.size, 0, none⟩) 1 1 [bv 0] rfl rfl (by simp) (one_news _ _ _) (by simp [Value.oneCell']) ?_ ?_ ?_ ?_)
              case refine_1 => simp [maxLen]; omega
              case refine_2 => simp; omega
              case refine_3 => have := HL.out.turns.size; simp; omega
              intro v8 w8 hown8 hg8
              obtain ⟨p8, c8, hv8, hf8⟩ := HL.out.grow (x := 0) HTL.out.symm hg8 (by simpa using hown8)
              rw [List.append_assoc, ← List.replicate_succ'] at hf8
              have HF8 := Calm.hid hf8
              clear hown8 hg8 hf8
              rw [hv8]
              go_wp2
              go_roundw
              case rel => exact ⟨j + 1, _, _, _, rfl, by have := HN.out; omega, by omega, HF8.out⟩
              case measure => simp [sliceLen]; omega
            · have HNL : Hid (nl = 64) := show nl = 64 by omega
              skip
              obtain ⟨F, hF⟩ : ∃ F, F = pad64 s := ⟨_, rfl⟩
              have HFL : Hid (F.length = 64) := by show F.length = 64; rw [hF]; exact pad64_length HSL.out
              have hLF : FL w3 (.slice pl 64 cl) F wr := by
                have e := HPAD.out j (by rw [← hn]; exact HNL.out)
                rw [hF, ← e, ← HNL.out]; exact hL
              obtain ⟨pl', cl', hv, hby, _⟩ := BytesOf.own hLF.own
              rw [HFL.out] at hv hby
              simp only [Value.slice.injEq, true_and] at hv
              obtain ⟨rfl, rfl⟩ := hv
              have HMF : Hid (digest (xorB 92 F ++ digest (xorB 54 F ++ b)) = m) := by show _ = m; rw [hF]; exact HMD.out
              have HT := Calm.hid hLF.turns
              have HY := Calm.hid hby
              rw [HNL.out]
              clear hF hLF hby hL hn
              go_wp2_with (at_builtin; refine wpList_append_any rfl (.const (.slice none 0 0)) (.tmp 65) 22 rfl wr.heap.size 5 i0 (.int .u8 0) 1 1 Tryd.underlying22 hi0 hz0 hz1 hz2 rfl (by decide) _ _ _ rfl (World.ownsRow_nil _ _ _ _) pl 64 cl (F.map bv) rfl (by rw [List.length_map, HFL.out]) HY.out.nil HY.out.news (BytesOf.one _) ?_ ?_ ?_ ?_)
              case refine_1 => simp [maxLen]
              case refine_2 => simp
              case refine_3 => exact Nat.le_refl _
              intro va wa howna hga
              have hwa : Below wr.heap.size wr wa := below_nil hga
              obtain ⟨gi, ci, rfl⟩ := own_some (show wa.ownsRow wr.heap.size 5 1 va 64 (F.map bv) by simpa using howna) (by decide)
              have HIN : Hid (wa.ownsRow wr.heap.size 5 1 (.slice (some ⟨gi, 0, none⟩) 64 ci) 64 (F.map bv)) := by show wa.ownsRow wr.heap.size 5 1 (.slice (some ⟨gi, 0, none⟩) 64 ci) 64 (F.map bv); simpa using howna
              have HTA : Hid (Turns (fun _ => False) w3 wa) := HT.out.trans (Turns.of_below hwa)
              have HYA := Calm.hid (HY.out.below hwa)
              clear howna hga hwa
              go_wp2_with (at_builtin; refine wpList_append_any rfl (.const (.slice none 0 0)) (.tmp 67) 22 rfl wa.heap.size 5 i0 (.int .u8 0) 1 1 Tryd.underlying22 hi0 hz0 hz1 hz2 rfl (by decide) _ _ _ rfl (World.ownsRow_nil _ _ _ _) pl 64 cl (F.map bv) rfl (by rw [List.length_map, HFL.out]) HYA.out.nil HYA.out.news (BytesOf.one _) ?_ ?_ ?_ ?_)
              case refine_1 => simp [maxLen]
              case refine_2 => simp
              case refine_3 => exact Nat.le_refl _
              intro vb wb hownb hgb
              have hwb : Below wa.heap.size wa wb := below_nil hgb
              obtain ⟨go, co, rfl⟩ := own_some (show wb.ownsRow wa.heap.size 5 1 vb 64 (F.map bv) by simpa using hownb) (by decide)
              have hOUT : wb.ownsRow wa.heap.size 5 1 (.slice (some ⟨go, 0, none⟩) 64 co) 64 (F.map bv) := by simpa using hownb
              have HGO : Hid (gi ≠ go) := by show gi ≠ go; have h1 := (HIN.out.lt gi rfl).2; have h2 := (hOUT.lt go rfl).1; omega
              have hx : KX w3 F gi go ci co 0 0 wb := by
                have e : ∀ x, xorB x (F.take 0) ++ F.drop 0 = F := fun x => by simp [xorB]
                refine ⟨?_, ?_, HTA.out.trans (Turns.of_below hwb)⟩
                · rw [e]; exact own_base (own_turns HIN.out (Turns.of_below (R := fun _ => False) hwb) (fun _ _ h => h)) (fun k hk => by have := (HIN.out.lt k hk).1; have := HT.out.size; omega)
                · rw [e]; exact own_base hOUT (fun k hk => by have := (hOUT.lt k hk).1; have := HTA.out.size; omega)
              have HX := Calm.hid hx
              clear hownb hgb hwb hOUT hx HIN
              go_wp2
              go_loopw [13] (fun t wr => ∃ i : Nat, i ≤ 64 ∧ t = .int .i64 i ∧ KX w3 F gi go ci co i i wr) (fun t _ => 64 - (intOf t).toNat)
              case atStart => exact ⟨0, by omega, rfl, HX.out⟩
              case round =>
                obtain ⟨i, hi, rfl, hL⟩ := hrel
                clear HX
                by_cases hlt : i < 64
                · have h2 := hL.stepI HFL.out hlt HGO.out
                  have h3 := h2.stepO HFL.out hlt HGO.out
                  have c0 := hL.cellI HFL.out hlt
                  have f0 := hL.inn.frozenAt i
                  have c1 := h2.cellO HFL.out hlt
                  have f1 := h2.out.frozenAt i
                  obtain ⟨y, hy⟩ : ∃ y, y = F.getD i 0 := ⟨_, rfl⟩
                  rw [← hy] at h2 h3 c0 c1 f1
                  have H3 := Calm.hid h3
                  clear hy h2 h3 hL
                  go_wp2
                  go_roundw
                  case rel => exact ⟨i + 1, by omega, by go_num, H3.out⟩
                  case measure => simp [intOf]; omega
                · have HI : Hid (i = 64) := show i = 64 by omega
                  rw [HI.out] at hL
                  have HBX := Calm.hid (HBW.out _ hL.turns)
                  have hin : wr.ownsRow w3.heap.size 5 1 (.slice (some ⟨gi, 0, none⟩) 64 ci) 64 ((xorB 54 F).map bv) := by
                    have := hL.inn
                    rwa [List.take_of_length_le (by rw [HFL.out]; exact Nat.le_refl _), List.drop_of_length_le (by rw [HFL.out]; exact Nat.le_refl _), List.append_nil] at this
                  have hout : wr.ownsRow w3.heap.size 5 1 (.slice (some ⟨go, 0, none⟩) 64 co) 64 ((xorB 92 F).map bv) := by
                    have := hL.out
                    rwa [List.take_of_length_le (by rw [HFL.out]; exact Nat.le_refl _), List.drop_of_length_le (by rw [HFL.out]; exact Nat.le_refl _), List.append_nil] at this
                  have HX54 : Hid ((xorB 54 F).length = 64) := by show _ = _; rw [xorB_length, HFL.out]
                  have HX92 : Hid ((xorB 92 F).length = 64) := by show _ = _; rw [xorB_length, HFL.out]
                  have HIN := Calm.hid hin
                  have HOUT := Calm.hid hout
                  have HTR := Calm.hid hL.turns
                  clear hL hin hout
                  go_wp2_with (at_builtin; refine wpList_append_any rfl (.tmp 89) (.tmp 90) 22 rfl w3.heap.size 5 i0 (.int .u8 0) 1 1 Tryd.underlying22 hi0 hz0 hz1 hz2 rfl (by decide) _ _ _ rfl HIN.out p b.length c (b.map bv) rfl (by simp) HBX.out.nil HBX.out.news (BytesOf.one _) ?_ ?_ ?_ ?_)
                  case refine_1 => simp [maxLen]; omega
                  case refine_2 => simp; omega
                  case refine_3 => exact HTR.out.size
                  intro vd wd hownd hgd
                  have hfl : FL w3 (.slice (some ⟨gi, 0, none⟩) 64 ci) (xorB 54 F) wr := ⟨by rw [HX54.out]; exact HIN.out, HTR.out⟩
                  have hld : (xorB 54 F ++ b).length = 64 + b.length := by rw [List.length_append, HX54.out]
                  obtain ⟨pd, cd, hvd, hfd, hbyd⟩ := hfl.grown (X := b) hgd (by rw [hld, List.map_append]; exact hownd)
                  rw [hld] at hvd hbyd
                  subst hvd
                  have hod : wd.ownsRow w3.heap.size 5 1 (.slice (some ⟨go, 0, none⟩) 64 co) 64 ((xorB 92 F).map bv) := own_turns HOUT.out (Turns.of_grown (R := fun k => k = gi) hgd (fun k hk _ => by simp [Value.ownBlock] at hk; omega)) (fun k hk e => by simp [Value.ownBlock] at hk; exact HGO.out (by omega))
                  have HOD := Calm.hid hod
                  have HYD := Calm.hid hbyd
                  have HTD := Calm.hid hfd.turns
                  have HLD := Calm.hid hld
                  clear hownd hgd hfl hld hfd hbyd hod
                  go_wp2_with fail
                  refine (of_n (xorB 54 F ++ b) (64 + b.length) pd cd wd HYD.out (by rw [HLD.out]; omega) (HKW.out _ HTD.out)).mono ?_
                  rintro en we ⟨rfl, hbe⟩
                  obtain ⟨dd, hdd⟩ : ∃ dd, dd = digest (xorB 54 F ++ b) := ⟨_, rfl⟩
                  have HDL : Hid (dd.length = 32) := by show dd.length = 32; rw [hdd, digest_length]
                  have HMF2 : Hid (digest (xorB 92 F ++ dd) = m) := by show _ = m; rw [hdd]; exact HMF.out
                  rw [← hdd]
                  have HTE : Hid (Turns (fun _ => False) w3 we) := HTD.out.trans (Turns.of_below hbe)
                  have HOE := Calm.hid (own_turns HOD.out (Turns.of_below (R := fun _ => False) hbe) (fun _ _ h => h))
                  clear hdd hbe
                  have HZE : Hid (Rw (we.alloc (.cells #[.int .u8 0, .int .u8 0, .int .u8 0, .int .u8 0, .int .u8 0, .int .u8 0, .int .u8 0, .int .u8 0, .int .u8 0, .int .u8 0, .int .u8 0, .int .u8 0, .int .u8 0, .int .u8 0, .int .u8 0, .int .u8 0, .int .u8 0, .int .u8 0, .int .u8 0, .int .u8 0, .int .u8 0, .int .u8 0, .int .u8 0, .int .u8 0, .int .u8 0, .int .u8 0, .int .u8 0, .int .u8 0, .int .u8 0, .int .u8 0, .int .u8 0, .int .u8 0] 25)) we.heap.size (zero32.map bv) 25) := Rw.new we _ 25
                  go_wp2_with (refine wpList_store_rw rfl 25 (.tmp 14) (.tmp 92) rfl we.heap.size (dd.map bv) rfl rfl 25 _ HZE.out (by rw [List.length_map, HDL.out]; kernel_rfl) (by rw [List.length_map, List.length_map, HDL.out]; rfl) (BytesOf.one _) ?_; intro wf hrf htf; have HTF : Hid (Turns (fun _ => False) w3 wf) := HTE.out.trans (Turns.of_below (new_stored htf)); have HDF := Calm.hid hrf; have HOF := Calm.hid (own_turns HOE.out (Turns.of_below (R := fun _ => False) (new_stored htf)) (fun _ _ h => h)); clear hrf htf; refine wpList_nil ?_)
                  have HBF : Hid (Below w3.heap.size w3 wf) := HTF.out.below (fun _ _ h => h)
                  have hl9 : ∀ q : KeptB w3.heap.size wf, (Instr.loadAt 25 (.pointer (some ⟨w2.heap.size, 0, none⟩))).run Tryd.prog q.world = .ok (.agg (arr m)) q.world := fun q => load25 (HR3.out.below (HBF.out.trans q.below)) HML.out
                  have he9 := fun w => eq25 m m HML.out HML.out w
                  rw [decide_eq_true rfl] at he9
                  have HL9 := Calm.hid hl9
                  have HE9 := Calm.hid he9
                  clear hl9 he9
                  go_frame
                  refine Calm.region_sb w3.heap.size [true, true, false, false, true, false, false, false, false, false] (by kernel_rfl) (by kernel_rfl) ?_
                  simp only [Calm.heads, Calm.tails]
                  repeat (go_big_quiet_step (fail))
                  refine wpQuiet_load rfl 25 (.tmp 7) rfl w2.heap.size rfl _ (by rintro _ ⟨q, rfl⟩; exact HL9.out q) ?_
                  refine wpQuiet_nil ?_
                  go_frame
                  have HDB : Hid (BytesOf wf.drew (some ⟨we.heap.size, 0, none⟩) 32 32 dd) := (rw_bytes HDF.out HDL.out (Nat.le_refl _) (by decide)).drewN 1
                  have HWF : Hid (Below w3.heap.size wf wf.drew) := (Below.refl _ _).drew
                  have HFO : Hid (FL w3 (.slice (some ⟨go, 0, none⟩) 64 co) (xorB 92 F) wf.drew) := ⟨by rw [HX92.out]; exact HOF.out, HTF.out.drew⟩
                  refine wpC_step (wpList_append_any rfl (.tmp 93) (.tmp 94) 22 rfl w3.heap.size 5 i0 (.int .u8 0) 1 1 Tryd.underlying22 hi0 hz0 hz1 hz2 rfl (by decide) _ _ _ rfl HOF.out (some ⟨we.heap.size, 0, none⟩) 32 32 (dd.map bv) rfl (by rw [List.length_map, HDL.out]) HDB.out.nil HDB.out.news (BytesOf.one _) ?_ ?_ ?_ ?_)
                  · simp [maxLen]
                  · simp
                  · exact HTF.out.size
                  intro vg wg howng hgg
                  have hlg : (xorB 92 F ++ dd).length = 96 := by rw [List.length_append, HX92.out, HDL.out]
                  obtain ⟨pg, cg, hvg, hfg, hbyg⟩ := HFO.out.grown (X := dd) hgg (by rw [hlg, List.map_append]; exact howng)
                  rw [hlg] at hvg hbyg
                  have hog := (HFO.out.own.lt go rfl).1
                  have HBG : Hid (Below w3.heap.size wf wg) := HWF.out.trans ⟨hgg.os, hgg.tape, hgg.output, hgg.size, fun k hk => hgg.block k (Nat.lt_of_lt_of_le hk HTF.out.size) (fun e => by have := (HFO.out.own.lt k e.symm).1; omega)⟩
                  have HYG := Calm.hid hbyg
                  have HLG := Calm.hid hlg
                  have HTG := Calm.hid hfg.turns
                  clear howng hgg hfg hbyg hlg hog
                  refine wpList_nil ⟨rfl, rfl, ⟨⟨_, HBG.out⟩, rfl⟩, ?_⟩
                  subst hvg
                  refine wpC_step ?_
                  go_wp2_with fail
                  refine (of_n (xorB 92 F ++ dd) 96 pg cg wg HYG.out (by rw [HLG.out]; omega) (HKW.out _ HTG.out)).mono ?_
                  rintro en wh ⟨rfl, hbh⟩
                  rw [HMF2.out]
                  have HBH : Hid (Below w3.heap.size wf wh) := HBG.out.trans (hbh.mono HTG.out.size)
                  clear hbh
                  go_wp2
                  refine ⟨⟨⟨wh, HBH.out⟩, rfl⟩, ?_⟩
                  have he9 := HE9.out
                  refine wpC_step ?_
                  go_wp2
                  refine ⟨⟨⟨wh, HBH.out⟩, rfl⟩, ?_⟩
                  clear he9
                  refine wpC_step ?_
                  go_wp2
                  refine ⟨⟨⟨wh, HBH.out⟩, rfl⟩, ?_⟩
                  refine wpC_step ?_
                  go_wp2_with fail
                  have HBW3 : Hid (Below w3.heap.size w3 wh) := HBF.out.trans HBH.out
                  refine (wakes2_any wh ((HK.out.below HB3.out).below HBW3.out)).mono ?_
                  rintro en wi ⟨rfl, hbi⟩
                  have HBI : Hid (Below w3.heap.size wf wi) := HBH.out.trans (hbi.mono HBW3.out.size)
                  clear hbi
                  go_wp2
                  refine ⟨⟨⟨wi, HBI.out⟩, rfl⟩, ?_⟩
                  refine wpC_step ?_
                  go_wp2
                  refine ⟨⟨⟨wi, HBI.out⟩, rfl⟩, ?_⟩
                  refine wpC_step ?_
                  go_wp2
                  refine ⟨⟨⟨wi, HBI.out⟩, rfl⟩, ?_⟩
                  refine wpC_nil ?_
                  go_wp2
                  go_ret
                  exact ⟨rfl, HB3.out.trans ((HBF.out.trans HBI.out).mono HB3.out.size)⟩
/-- The same walk in the shape in which the card's text takes it. -/
theorem macKeys_card (key : List UInt8) (kp : Option Addr) (kc : Nat) (b : List UInt8) (p : Option Addr) (c : Nat) (more : Int) (w : World) (hk : BytesOf w kp key.length kc key) (hb : BytesOf w p b.length c b) (_ : (Lit.int .i64 more).wf = true) (hK : HasK w) :
    Calls Tryd.prog 11 #[.slice kp key.length kc, .slice p b.length c, .int .i64 more] w fun en w' => en = .returned (.bool true) ∧ Below w.heap.size w w' := macKeys_walk key kp kc b p c more w hk hb hK
end Go.Proofs.YtpbahoapjkmcjaaDoor
