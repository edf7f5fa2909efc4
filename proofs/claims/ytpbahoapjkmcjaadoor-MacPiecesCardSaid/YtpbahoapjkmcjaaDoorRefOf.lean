/-
  The document's own digest of bytes is the digest.
-/
import Derived.Test.YtpbahoapjkmcjaaDoorRefFill
namespace Go.Proofs.YtpbahoapjkmcjaaDoor
open Go.RowKit Go.Sha Go.Calm

theorem eatN_snd : ∀ (j : Nat) (s : List UInt32) (l : List UInt8), (eatN j s l).2 = l.drop (64 * j)
  | 0, s, l => by simp [eatN]
  | j + 1, s, l => by rw [eatN, eatN_snd j]; rw [List.drop_drop]; congr 1; omega
theorem eatN_succ : ∀ (j : Nat) (s : List UInt32) (l : List UInt8), (eatN (j + 1) s l).1 = mix (eatN j s l).1 ((l.drop (64 * j)).take 64)
  | 0, s, l => by simp [eatN]
  | j + 1, s, l => by
    rw [eatN, eatN_succ j, eatN, List.drop_drop]
    congr 3; omega
theorem eatN_length : ∀ (j : Nat) (s : List UInt32) (l : List UInt8), s.length = 8 → (eatN j s l).1.length = 8
  | 0, _, _, h => h
  | j + 1, s, l, h => by rw [eatN]; exact eatN_length j _ _ (mix_length h _)
theorem pad_mod (n : Nat) : (n + (padOf n).length) % 64 = 0 := by
  simp [padOf, lenB_length, zeros]; omega
theorem load43 {w : World} {g : Nat} {l : List UInt32} (h : Rw w g (l.map wv) 43) (hl : l.length = 8) : (Instr.loadAt 43 (.pointer (some ⟨g, 0, none⟩))).run Tryd.prog w = .ok (.agg (l.map wv).toArray) w := by
  have h32 : (l.map wv).toArray.size = 8 := by simp [hl]
  have := run_loadVar_row w g 43 43 (l.map wv).toArray (0, 0) _ h Tryd.underlying43 rfl (by rw [h32]; exact (show (Tryd.prog.info? 43).map (·.size) = some 8 by kernel_rfl))
  simp only [Instr.loadAt, Instr.sureAddr, Sem.run_bind, Sem.run_pure, Result.andThen_ok, this]
theorem run_cut64 (w : World) (p : Option Addr) (n c a : Nat) (hc : a + 64 ≤ c) :
    (Instr.slice 22 (.slice p n c) (some (.int .i64 a)) (some (.int .i64 ((a : Int) + 64))) none).run Tryd.prog w = .ok (.slice (cutAt p c a) 64 (c - a)) w :=
  run_cut Tryd.underlying22 Tryd.info5 w p n c a 64 hc _ rfl
attribute [local go_sem high] run_cut64

theorem two_new2 (w : World) (a : Array Value) (ta : TypeId) (b : Array Value) (tb : TypeId) : Rw ((w.alloc (.cells a ta)).alloc (.cells b tb)) (w.heap.size + 1) b.toList tb := by
  have := Rw.new (w.alloc (.cells a ta)) b tb
  simpa using this
/-- The document's Of: the eight words after j blocks. -/
structure O1 (w : World) (F : List UInt8) (q : Option Addr) (n c : Nat) (ws : List UInt32) (wr : World) : Prop where
  res : Rw wr w.heap.size (zero32.map bv) 25
  st : Rw wr (w.heap.size + 1) (ws.map wv) 43
  by_ : BytesOf wr q n c F
  turns : Turns (fun _ => False) w wr
theorem O1.below {w wr w2 : World} {F : List UInt8} {q : Option Addr} {n c : Nat} {ws : List UInt32} (h : O1 w F q n c ws wr) (k : Below wr.heap.size wr w2) : O1 w F q n c ws w2 :=
  ⟨h.res.below k, h.st.below k, h.by_.below k, h.turns.trans (Turns.of_below k)⟩
theorem O1.store {w wr w3 : World} {F : List UInt8} {q : Option Addr} {n c : Nat} {ws ws' : List UInt32} (h : O1 w F q n c ws wr) (hq : ∀ ad, q = some ad → 0 < n → ad.block ≠ w.heap.size + 1) (hr : Rw w3 (w.heap.size + 1) (ws'.map wv) 43) (ht : Turns (· = w.heap.size + 1) wr w3) : O1 w F q n c ws' w3 :=
  ⟨h.res.turns ht (by omega), hr, h.by_.turns ht hq, h.turns.step ht (fun k hk e => by omega)⟩
structure O3 (w : World) (db : Nat) (ws : List UInt32) (i : Nat) (wr : World) : Prop where
  res : Rw wr w.heap.size (zero32.map bv) 25
  dig : Rw wr db (((outB ws).take i ++ zero32.drop i).map bv) 25
  st : Rw wr (w.heap.size + 1) (ws.map wv) 43
  turns : Turns (fun _ => False) w wr
  lt : w.heap.size + 1 < db
theorem O3.at_ {w wr : World} {db i : Nat} {ws : List UInt32} (h : O3 w db ws i wr) (hi : i < 32) : wr.cell? ⟨db, i, none⟩ = some (bv 0) := by
  refine h.dig.cell ?_
  rw [List.getElem?_map, List.getElem?_append_right (by simp [outB_length]; omega)]
  have hm : min i 32 = i := by omega
  have hz : (zero32.drop i)[0]? = some 0 := by
    unfold zero32
    rw [List.drop_replicate]
    obtain ⟨k, hk⟩ : ∃ k, 32 - i = k + 1 := ⟨31 - i, by omega⟩
    rw [hk]; rfl
  rw [List.length_take, outB_length, hm, Nat.sub_self, hz]; rfl
theorem O3.word {w wr : World} {db i j : Nat} {ws : List UInt32} (h : O3 w db ws i wr) (h8 : ws.length = 8) (hj : j < 8) : wr.cell? ⟨w.heap.size + 1, j, none⟩ = some (wv (ws.getD j 0)) := by
  refine h.st.cell ?_
  have : j < ws.length := by omega
  simp [this]
theorem O3.step {w wr : World} {db i : Nat} {ws : List UInt32} (h : O3 w db ws i wr) (hi : i < 32) : O3 w db ws (i + 1) (wr.setCell ⟨db, i, none⟩ (bv (UInt8.ofNat ((ws.getD (i / 4) 0).toNat / 2 ^ (24 - i % 4 * 8))))) := by
  have hlt := h.lt
  refine ⟨h.res.set_other (by simp; omega) _, ?_, h.st.set_other (by simp; omega) _, h.turns.setCell (fun hc => by simp at hc; omega) _, h.lt⟩
  have := h.dig.set i (bv (UInt8.ofNat ((ws.getD (i / 4) 0).toNat / 2 ^ (24 - i % 4 * 8))))
  rw [← List.map_set, half_set (outB_length ws) (n := 32) (by simp [zero32]) hi (outB_get ws i hi)] at this
  exact this

set_option maxRecDepth 100000 in
set_option maxHeartbeats 1000000 in
theorem ofR_any (b : List UInt8) (p : Option Addr) (cap : Nat) (w : World) (hs : BytesOf w p b.length cap b) (hlen : b.length < 35184372088832) :
    Calls Tryd.prog 15 #[.slice p b.length cap] w fun en w' => en = .returned (.agg (arr (digest b))) ∧ Below w.heap.size w w' := by
  obtain ⟨F, hF⟩ : ∃ F, F = b ++ padOf b.length := ⟨_, rfl⟩
  have HF := Calm.hid hF
  have HB := Calm.hid hs
  have hFl : F.length % 64 = 0 := by rw [hF, List.length_append]; exact pad_mod _
  have HFL := Calm.hid hFl
  have hFb : F.length < 35184372088832 + 200 := by rw [hF]; simp [padOf, lenB_length]; have := zeros_le b.length; omega
  clear hF hs hFl
  go_enter Tryd.func15, Tryd.ntmps15
  go_wp2_with (first
    | refine wpList_build_to rfl 43 _ rfl (H0.map wv).toArray (by kernel_rfl) ?_
    | (refine wpList_store_rw rfl 43 (.tmp 3) (.tmp 8) rfl (w.heap.size + 1) (H0.map wv) rfl rfl 43 _ (two_new2 w _ 25 _ 43) (by kernel_rfl) (by kernel_rfl) (map_one _) ?_
       intro w1 hr1 ht1
       have HR1 := Calm.hid hr1
       have HT1 := Calm.hid ht1
       clear hr1 ht1
       refine wpList_nil ?_))
  have hT1 : Turns (fun _ => False) w w1 := (((Turns.refl _ w).alloc _).alloc _).step HT1.out (fun k hk e => by omega)
  have hres1 : Rw w1 w.heap.size (zero32.map bv) 25 := ((Rw.new w _ 25).alloc _).turns HT1.out (by omega)
  have HTT := Calm.hid hT1
  clear hT1
  refine (filled_any b p cap w1 (HB.out.turns HTT.out (fun _ _ _ h => h)) hlen).mono ?_
  rintro en w2 ⟨⟨q, c, rfl, hby, hq2⟩, hb2⟩
  rw [← HF.out] at hby
  rw [← HF.out]
  have hO : O1 w F q F.length c (eatN 0 H0 F).1 w2 := ⟨hres1.below hb2, HR1.out.below hb2, hby, HTT.out.trans (Turns.of_below hb2)⟩
  have HQ : Hid (∀ ad, q = some ad → 0 < F.length → ad.block ≠ w.heap.size + 1) := fun ad had _ => (by have := hq2 ad had; have := HR1.out.lt; omega)
  have HO := Calm.hid hO
  clear hO hby hb2 hres1 hq2
  go_wp2
  go_loopw [5] (fun t wr => ∃ j a, a = 64 * j ∧ t = .int .i64 (a : Nat) ∧ a ≤ F.length ∧ O1 w F q F.length c (eatN j H0 F).1 wr) (fun t _ => F.length - (intOf t).toNat)
  case atStart => exact ⟨0, 0, rfl, rfl, Nat.zero_le _, HO.out⟩
  case round =>
    clear HO
    obtain ⟨j, a, ha, rfl, hle, hO⟩ := hrel
    have HA := Calm.hid ha
    by_cases hlt : a < F.length
    · have h64 : a + 64 ≤ F.length := by have := HFL.out; omega
      have HO := Calm.hid hO
      clear hO ha
      have hcap := HO.out.by_.le
      have hac : a + 64 ≤ c := by omega
      have hl8 : (eatN j H0 F).1.length = 8 := eatN_length j _ _ rfl
      have HL8 := Calm.hid hl8
      clear hl8
      go_wp2
      have hld : ∀ q : Kept wr, (Instr.loadAt 43 (.pointer (some ⟨w.heap.size + 1, 0, none⟩))).run Tryd.prog q.world = .ok (.agg ((eatN j H0 F).1.map wv).toArray) q.world := fun k =>
        load43 (HO.out.st.below k.below) HL8.out
      have hmx : ∀ k : Kept wr, Calls Tryd.prog 29 #[.agg ((eatN j H0 F).1.map wv).toArray, .slice (cutAt q c a) 64 (c - a)] k.world fun en w' => en = .returned (.agg ((mix (eatN j H0 F).1 ((F.drop a).take 64)).map wv).toArray) ∧ Below k.world.heap.size k.world w' := fun k =>
        mixR_any _ HL8.out _ _ _ k.world ((HO.out.by_.below k.below).cut_at h64)
      have HLD := Calm.hid hld
      have HMX := Calm.hid hmx
      clear hld hmx
      refine Calm.region_k 7 (by kernel_rfl) (by kernel_rfl) ?_
      simp only [List.take_succ_cons, List.take_zero, List.drop_succ_cons, List.drop_zero]
      refine wpQuiet_load rfl 43 (.tmp 3) rfl (w.heap.size + 1) rfl _ (by rintro _ ⟨k, rfl⟩; exact HLD.out k) ?_
      go_frame
      repeat (go_big_quiet_step (first | (go_at_call 29; exact Kept.call (HMX.out _))))
      refine wpQuiet_nil ?_
      rintro _ ⟨nq, rfl⟩
      have HO2 := Calm.hid (HO.out.below nq.below)
      refine wpList_store_rw rfl 43 (.tmp 3) (.tmp 23) rfl (w.heap.size + 1) ((mix (eatN j H0 F).1 ((F.drop a).take 64)).map wv) rfl rfl 43 _ HO2.out.st (by rw [List.length_map, mix_length HL8.out]; kernel_rfl) (by rw [List.length_map, List.length_map, mix_length HL8.out, HL8.out]) (map_one _) ?_
      intro w3 hr3 ht3
      have HO3 := Calm.hid (HO2.out.store HQ.out hr3 ht3)
      clear hr3 ht3
      refine wpList_nil ?_
      go_frame
      go_wp2
      go_roundw
      case rel => exact ⟨j + 1, a + 64, by have := HA.out; omega, by go_num, h64, by rw [eatN_succ, ← HA.out]; exact HO3.out⟩
      case measure => simp [intOf]; omega
    · obtain ⟨ws, hws⟩ : ∃ ws, ws = (eat H0 F).1 := ⟨_, rfl⟩
      have hje : eatN j H0 F = eat H0 F := by
        unfold eat
        have : F.length / 64 = j := by omega
        rw [this]
      rw [hje, ← hws] at hO
      have HW := Calm.hid hws
      have HW8 : Hid (ws.length = 8) := by rw [hws]; exact eat_words rfl _
      have HO := Calm.hid hO
      clear hO ha hws hje
      go_wp2
      obtain ⟨wo, rfl⟩ : ∃ wo : World, wo = wr := ⟨_, rfl⟩
      go_loopw [7] (fun c' wq => ∃ i : Nat, i ≤ 32 ∧ c' = .int .i64 i ∧ O3 w wo.heap.size ws i wq) (fun c' _ => 32 - (intOf c').toNat)
      case atStart => exact ⟨0, by omega, rfl, ⟨HO.out.res.alloc _, Rw.new wo _ 25, HO.out.st.alloc _, HO.out.turns.alloc _, HO.out.st.lt⟩⟩
      case round =>
        obtain ⟨i, hi, rfl, hS⟩ := hrel
        by_cases hlt : i < 32
        · obtain ⟨x, hx⟩ : ∃ x, x = ws.getD (i / 4) 0 := ⟨_, rfl⟩
          have HXX := Calm.hid hx
          have c0 := hS.word HW8.out (show i / 4 < 8 by omega)
          rw [← hx] at c0
          have c1 := hS.at_ hlt
          have f1 := hS.dig.free i
          have HS := Calm.hid hS
          clear hx hS
          go_wp2
          go_roundw
          case rel => exact ⟨i + 1, by omega, by go_num, by rw [shr_byte, HXX.out]; exact HS.out.step hlt⟩
          case measure => simp [intOf]; omega
        · have HI2 : Hid (i = 32) := show i = 32 by omega
          have hS2 : O3 w wo.heap.size ws 32 wr := by rw [← HI2.out]; exact hS
          clear hS
          have hd : Rw wr wo.heap.size ((outB ws).map bv) 25 := by
            have := hS2.dig
            rwa [List.take_of_length_le (by rw [outB_length]; omega), List.drop_of_length_le (by simp [zero32]), List.append_nil] at this
          have HD := Calm.hid hd
          have HS2 := Calm.hid hS2
          clear hd hS2
          go_wp2_with (first
            | refine wpList_load_rw rfl 25 (.tmp 6) rfl wo.heap.size rfl 25 _ _ HD.out Tryd.underlying25 rfl (by rw [List.length_map, outB_length]; kernel_rfl) ?_
            | (refine wpList_store_rw rfl 25 (.tmp 2) (.tmp 40) rfl w.heap.size ((outB ws).map bv) rfl rfl 25 _ HS2.out.res (by rw [List.length_map, outB_length]; kernel_rfl) (by rw [List.length_map, List.length_map, outB_length]; rfl) (BytesOf.one _) ?_; intro w9 hr9 ht9; refine wpList_nil ?_))
          refine bodyPost_ret (results_cell_rw rfl rfl hr9 Tryd.underlying25 (by rw [List.length_map, outB_length]; kernel_rfl)) rfl ⟨?_, (HS2.out.turns.step ht9 (fun b hb e => by subst e; exact absurd hb (Nat.lt_irrefl _))).below (fun _ _ h => h)⟩
          rw [HW.out, HF.out]; rfl
end Go.Proofs.YtpbahoapjkmcjaaDoor
