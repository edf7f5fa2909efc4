/-
  However bytes are written to a pen, piece by piece, the mac is that of the bytes under the key: the walk of MacPieces.
-/
import Derived.Test.YtpbahoapjkmcjaaDoorMacKeysW
namespace Go.Proofs.YtpbahoapjkmcjaaDoor
open Go.RowKit Go.Sha Go.Calm
attribute [local go_sem high] run_cut22 run_upto22 run_upto22' run_from22

theorem IsPen.turns {R : Nat → Prop} {w w' : World} {base pb hb ob : Nat} {left : Value} {o m : List UInt8} (h : IsPen w base pb hb ob left o m) (k : Turns R w w') (h1 : ¬ R pb) (h2 : ¬ R hb) (h3 : ¬ R ob) (h4 : ∀ g, left.ownBlock = some g → ¬ R g) : IsPen w' base pb hb ob left o m :=
  ⟨h.row.turns k h1, ⟨h.hash.row.turns k h2, own_turns h.hash.own k h4⟩, h.out.turns k h3, h.len, h.pb_, h.hb_, h.ob_, h.left_, h.ph, h.po, h.ho, h.pl, h.ol⟩
/-- The pen, where nothing of what w held has turned. -/
structure PN (w : World) (base pb hb ob : Nat) (left : Value) (o m : List UInt8) (wr : World) : Prop where
  pen : IsPen wr base pb hb ob left o m
  turns : Turns (fun _ => False) w wr
/-- .. and a row of bytes of the call's own lies beside it. -/
structure PK (w : World) (base pb hb ob : Nat) (left : Value) (o m : List UInt8) (v : Value) (n : Nat) (wr : World) : Prop where
  pen : PN w base pb hb ob left o m wr
  row : ∃ l : List UInt8, wr.ownsRow w.heap.size 5 1 v n (l.map bv)
  apart : ∀ k, v.ownBlock = some k → k ≠ pb ∧ k ≠ hb ∧ k ≠ ob ∧ left.ownBlock ≠ some k
theorem PN.below {w wr w2 : World} {base pb hb ob : Nat} {left : Value} {o m : List UInt8} (h : PN w base pb hb ob left o m wr) (k : Below wr.heap.size wr w2) : PN w base pb hb ob left o m w2 :=
  ⟨h.pen.below k, h.turns.trans (Turns.of_below k)⟩
theorem PN.hasK {w wr : World} {base pb hb ob : Nat} {left : Value} {o m : List UInt8} (h : PN w base pb hb ob left o m wr) (hK : HasK w) : HasK wr := hK.turns h.turns (fun h => h)
theorem PN.write {w wr w2 : World} {base pb hb ob : Nat} {left left2 : Value} {o m m2 : List UInt8} (h : PN w base pb hb ob left o m wr) (hw : w.heap.size ≤ base) (hp : IsPen w2 base pb hb ob left2 o m2) (ht : Turns (fun k => k = hb ∨ left.ownBlock = some k) wr w2) : PN w base pb hb ob left2 o m2 w2 :=
  ⟨hp, h.turns.step ht (fun k hk e => by
    rcases e with e | e
    · have := h.pen.hb_; omega
    · have := h.pen.left_ k e; omega)⟩
theorem PK.at_ {w wr : World} {base pb hb ob : Nat} {left : Value} {o m : List UInt8} {p : Option Addr} {n c j : Nat} (y : UInt8) (h : PK w base pb hb ob left o m (.slice p n c) n wr) (hj : j < n) :
    ∃ g x, p = some ⟨g, 0, none⟩ ∧ wr.cell? ⟨g, j, none⟩ = some x ∧ wr.frozen? ⟨g, j, none⟩ = false ∧ PK w base pb hb ob left o m (.slice p n c) n (wr.setCell ⟨g, j, none⟩ (bv y)) := by
  obtain ⟨l, hl⟩ := h.row
  have hn : l.length = n := by simpa using hl.1
  obtain ⟨g, c', hv⟩ := own_some hl (by omega)
  simp only [Value.slice.injEq, true_and] at hv
  obtain ⟨rfl, rfl⟩ := hv
  have hjl : j < (l.map bv).length := by rw [List.length_map, hn]; exact hj
  obtain ⟨x, hx⟩ : ∃ x, (l.map bv)[j]? = some x := ⟨_, List.getElem?_eq_getElem hjl⟩
  obtain ⟨s1, s2⟩ := hl.stored j (bv y)
  obtain ⟨a1, a2, a3, a4⟩ := h.apart g rfl
  have hlt := hl.lt g rfl
  have ht : Turns (fun k => k = g) wr (wr.setCell ⟨g, j, none⟩ (bv y)) := Turns.setCell (R := fun k => k = g) (a := ⟨g, j, none⟩) (Turns.refl _ _) (fun _ => rfl) _
  refine ⟨g, x, rfl, by rw [hl.cellAt j (by omega), hx], hl.frozenAt j, ⟨⟨h.pen.pen.turns ht (fun e => a1 e.symm) (fun e => a2 e.symm) (fun e => a3 e.symm) (fun k hk e => by subst e; exact a4 hk), h.pen.turns.setCell (fun e => by simp at e; omega) _⟩, ⟨l.set j y, ?_⟩, h.apart⟩⟩
  rw [List.map_set]; exact s1

set_option maxRecDepth 100000 in
set_option maxHeartbeats 2000000 in
theorem macPieces_walk (key : List UInt8) (kp : Option Addr) (kc : Nat) (b : List UInt8) (p0 : Option Addr) (c0 : Nat) (z : List Int) (p1 : Option Addr) (c1 : Nat) (w : World) (hk : BytesOf w kp key.length kc key) (hb : BytesOf w p0 b.length c0 b) (hz : IntsOf w p1 z.length c1 z) (hK : HasK w) :
    Calls Tryd.prog 10 #[.slice kp key.length kc, .slice p0 b.length c0, .slice p1 z.length c1] w fun en w' => en = .returned (.bool true) ∧ Below w.heap.size w w' := by
  obtain ⟨i0, hi0, hz0, hz1, hz2⟩ := info_parts Tryd.info5
  have HKY := Calm.hid hk
  have HB := Calm.hid hb
  have HZ := Calm.hid hz
  have HK := Calm.hid hK
  have hguard := Tryd.noGuard25
  clear hk hb hz hK
  by_cases h1 : 8192 < key.length
  · have hd : decide (8192 < (key.length : Int)) = true := by simp; omega
    go_enter Tryd.func10, Tryd.ntmps10
    go_wp2_with fail
    refine (wakes2_any w HK.out).mono ?_
    rintro en w2 ⟨rfl, hb2⟩
    have HB2 := Calm.hid hb2
    clear hb2
    go_wp2
    go_ret
    exact ⟨rfl, HB2.out⟩
  by_cases h2 : 8192 < b.length
  · have hd : decide (8192 < (b.length : Int)) = true := by simp; omega
    have hd1 : decide (8192 < (key.length : Int)) = false := by simp; omega
    go_enter Tryd.func10, Tryd.ntmps10
    go_wp2_with fail
    refine (wakes2_any w HK.out).mono ?_
    rintro en w2 ⟨rfl, hb2⟩
    have HB2 := Calm.hid hb2
    clear hb2
    go_wp2
    go_ret
    exact ⟨rfl, HB2.out⟩
  by_cases h3 : 200 < z.length
  · have hd : decide (200 < (z.length : Int)) = true := by simp; omega
    have hd1 : decide (8192 < (key.length : Int)) = false := by simp; omega
    have hd2 : decide (8192 < (b.length : Int)) = false := by simp; omega
    go_enter Tryd.func10, Tryd.ntmps10
    go_wp2_with fail
    refine (wakes2_any w HK.out).mono ?_
    rintro en w2 ⟨rfl, hb2⟩
    have HB2 := Calm.hid hb2
    clear hb2
    go_wp2
    go_ret
    exact ⟨rfl, HB2.out⟩
  have hd1 : decide (8192 < (key.length : Int)) = false := by simp; omega
  have hd2 : decide (8192 < (b.length : Int)) = false := by simp; omega
  have hd3 : decide (200 < (z.length : Int)) = false := by simp; omega
  go_enter Tryd.func10, Tryd.ntmps10
  go_wp2_with (at_builtin; refine wpList_append_any rfl (.const (.slice none 0 0)) (.tmp 30) 22 rfl w.heap.size 5 i0 (.int .u8 0) 1 1 Tryd.underlying22 hi0 hz0 hz1 hz2 rfl (by decide) _ _ _ rfl (World.ownsRow_nil _ _ _ _) kp key.length kc (key.map bv) rfl (by simp) HKY.out.nil HKY.out.news (BytesOf.one _) ?_ ?_ ?_ ?_)
  case refine_1 => simp [maxLen]; omega
  case refine_2 => simp; omega
  case refine_3 => exact Nat.le_refl _
  intro v2 w2 hown2 hg2
  have hb2 := below_nil hg2
  replace hown2 : w2.ownsRow w.heap.size 5 1 v2 key.length (key.map bv) := by simpa using hown2
  obtain ⟨pk, ck, hv2, hby2, _⟩ := BytesOf.own (l := key) hown2
  subst hv2
  have HO2 := Calm.hid hown2
  have HB2 := Calm.hid hb2
  have HY2 := Calm.hid hby2
  have HSZ : Hid (w.heap.size ≤ w2.heap.size) := hb2.size
  clear hown2 hg2 hb2 hby2
  clear hd1 hd2 hd3
  go_wp2_with fail
  refine (penNew_any key pk ck w2 HY2.out (by omega) (HK.out.below HB2.out)).mono ?_
  rintro en w3 ⟨⟨pb, hb, ob, left0, rfl, hp3⟩, hb3⟩
  obtain ⟨O, hO⟩ : ∃ O, O = xorB 92 (pad64 (short key)) := ⟨_, rfl⟩
  obtain ⟨I, hI⟩ : ∃ I, I = xorB 54 (pad64 (short key)) := ⟨_, rfl⟩
  have HIL : Hid (I.length = 64) := by show I.length = 64; rw [hI, block_length]
  have HMD : Hid (∀ x, digest (O ++ digest (I ++ x)) = macD key x) := fun x => by rw [hO, hI, macD]
  rw [← hO, ← hI] at hp3
  clear hO hI
  have hk3 : PK w w2.heap.size pb hb ob left0 O I (.slice pk key.length ck) key.length w3 := by
    refine ⟨⟨hp3, Turns.of_below (HB2.out.trans (hb3.mono HSZ.out))⟩, ⟨key, own_turns HO2.out (Turns.of_below (R := fun _ => False) hb3) (fun _ _ h => h)⟩, fun k hk => ?_⟩
    have h1 := (HO2.out.lt k hk).2
    have h2 := hp3.pb_
    have h3 := hp3.hb_
    have h4 := hp3.ob_
    exact ⟨by omega, by omega, by omega, fun e => by have := hp3.left_ k e; omega⟩
  have HK3 := Calm.hid hk3
  clear hp3 hb3 hk3
  go_wp2
  go_loopw [9] (fun c wr => ∃ j : Nat, j ≤ key.length ∧ c = .int .i64 j ∧ PK w w2.heap.size pb hb ob left0 O I (.slice pk key.length ck) key.length wr) (fun c _ => key.length - (intOf c).toNat)
  case atStart => exact ⟨0, Nat.zero_le _, rfl, HK3.out⟩
  case round =>
    obtain ⟨j, hj, rfl, hI⟩ := hrel
    clear HK3
    by_cases hjk : j < key.length
    · obtain ⟨g, x, rfl, hx, hfz, hI2⟩ := hI.at_ 9 hjk
      have HI2 := Calm.hid hI2
      clear hI hI2
      go_wp2
      go_roundw
      case rel => exact ⟨j + 1, by omega, by go_num, HI2.out⟩
      case measure => simp [intOf]; omega
    · have hjd : decide ((j : Int) < (key.length : Int)) = false := by simp; omega
      have HP := Calm.hid hI.pen
      clear hI
      go_wp2
      go_loopw [10, 11] (fun t c wr => ∃ (a i : Nat) (left : Value), t = .int .i64 a ∧ c = .int .i64 i ∧ a ≤ b.length ∧ i ≤ z.length ∧ PN w w2.heap.size pb hb ob left O (I ++ b.take a) wr) (fun _ c _ => z.length - (intOf c).toNat)
      case atStart => exact ⟨0, 0, _, rfl, rfl, by omega, by omega, by simpa using HP.out⟩
      case round =>
        obtain ⟨a, i, left, rfl, rfl, ha, hi, hP⟩ := hrel
        clear HP hjd hjk
        by_cases hlt : i < z.length
        · skip
          obtain ⟨bb, oo, rfl⟩ := HZ.out.plain (by omega)
          obtain ⟨zi, hzi⟩ : ∃ zi, zi = z.getD i 0 := ⟨_, rfl⟩
          have cz : wr.cell? ⟨bb, oo + i, none⟩ = some (.int .i64 zi) := by
            rw [hzi]; exact (HZ.out.turns hP.turns (fun _ _ _ h => h)).cell hlt
          have HZI := Calm.hid hzi
          clear hzi
          have hcap := HB.out.le
          have HP := Calm.hid hP
          clear hP
          obtain ⟨k, hk, hr⟩ := tmod_cases zi ((b.length : Int) - a + 1) (by omega)
          have hcb := HB.out.turns HP.out.turns (fun _ _ _ h => h) |>.cut_at (a := a) (k := k) (by omega)
          have HC := Calm.hid hcb
          clear hcb
          have hak : a + k ≤ c0 := by omega
          have hkd : decide ((k : Int) < 0) = false := by simp
          rcases hr with hr | ⟨hr, hk0⟩
          all_goals
            go_wp2_with (at_builtin; refine wpList_append_any rfl (.const (.slice none 0 0)) (.tmp 68) 22 rfl wr.heap.size 5 i0 (.int .u8 0) 1 1 Tryd.underlying22 hi0 hz0 hz1 hz2 rfl (by decide) _ _ _ rfl (World.ownsRow_nil _ _ _ _) (cutAt p0 c0 a) k (c0 - a) (((b.drop a).take k).map bv) rfl (by have := HC.out.len; simp at this ⊢; omega) HC.out.nil HC.out.news (BytesOf.one _) ?_ ?_ ?_ ?_)
            case refine_1 => simp [maxLen]; omega
            case refine_2 => simp; omega
            case refine_3 => exact Nat.le_refl _
            intro v4 w4 hown4 hg4
            have hbel := below_nil hg4
            replace hown4 : w4.ownsRow wr.heap.size 5 1 v4 k (((b.drop a).take k).map bv) := by simpa using hown4
            obtain ⟨pp, pc, hv4, hby4, hpp⟩ := BytesOf.own (l := (b.drop a).take k) hown4
            subst hv4
            have HO := Calm.hid hown4
            have HBE := Calm.hid hbel
            have HBY := Calm.hid hby4
            have HP4 := Calm.hid (HP.out.below hbel)
            have HK4 := Calm.hid ((HP.out.below hbel).hasK HK.out)
            clear hown4 hg4 hbel hby4 hpp
            go_wp2_with fail
            refine (penWrite_any w2.heap.size pb hb ob left O (I ++ b.take a) ((b.drop a).take k) k pp pc w4 HP4.out.pen HBY.out (by have := HIL.out; simp; omega) (fun ad had hpos e => ?_) HK4.out (by have := HK.out.pos; have := HSZ.out; omega)).mono ?_
            · have h1 := (HO.out.lt ad.block (by rw [had]; rfl)).1
              have := HP.out.pen.hash.row.lt
              omega
            rintro en w5 ⟨rfl, left5, hp5, ht5, hl5⟩
            have ht : I ++ b.take a ++ (b.drop a).take k = I ++ b.take (a + k) := by rw [List.append_assoc, ← List.take_add]
            rw [ht] at hp5
            have hI : PK w w2.heap.size pb hb ob left5 O (I ++ b.take (a + k)) (.slice pp k pc) k w5 := by
              refine ⟨HP4.out.write HSZ.out hp5 ht5, ⟨(b.drop a).take k, own_base (own_turns HO.out ht5 (fun g hg e => ?_)) (fun g hg => ?_)⟩, fun g hg => ?_⟩
              · have h1 := (HO.out.lt g hg).1
                rcases e with e | e
                · have := HP.out.pen.hash.row.lt; omega
                · have := (HP.out.pen.hash.own.lt g e).2; omega
              · have h1 := (HO.out.lt g hg).1; have := HP.out.turns.size; omega
              · have h1 := HO.out.lt g hg
                have h2 := HP.out.pen.row.lt
                have h3 := HP.out.pen.hash.row.lt
                have h4 := HP.out.pen.out.lt
                exact ⟨by omega, by omega, by omega, fun e => by have := hl5 g e; omega⟩
            clear hp5 ht5 hl5 ht
            have HI := Calm.hid hI
            clear hI cz
            go_wp2
            go_loopw [14] (fun c wr => ∃ j : Nat, j ≤ k ∧ c = .int .i64 j ∧ PK w w2.heap.size pb hb ob left5 O (I ++ b.take (a + k)) (.slice pp k pc) k wr) (fun c _ => k - (intOf c).toNat)
            case atStart => exact ⟨0, Nat.zero_le _, rfl, HI.out⟩
            case round =>
              obtain ⟨j, hj, rfl, hI⟩ := hrel
              clear HI
              by_cases hjk : j < k
              · obtain ⟨g, x, rfl, hx, hfz, hI2⟩ := hI.at_ 7 hjk
                have HI2 := Calm.hid hI2
                clear hI hI2
                go_wp2
                go_roundw
                case rel => exact ⟨j + 1, by omega, by go_num, HI2.out⟩
                case measure => simp [intOf]; omega
              · have HP6 := Calm.hid hI.pen
                have HJ : Hid (j = k) := show j = k by omega
                clear hI
                have c4 : ∀ q : Kept wr, q.world.cell? ⟨bb, oo + i, none⟩ = some (.int .i64 zi) := fun q => by
                  rw [HZI.out]
                  exact (HZ.out.turns ((HP6.out.below (q.below)).turns) (fun _ _ _ h => h)).cell hlt
                have hs4 : ∀ q : Kept wr, Calls Tryd.prog 24 #[.pointer (some ⟨pb, 0, none⟩)] q.world fun en w' => en = .returned (.agg (arr (macD key (b.take (a + k))))) ∧ Below q.world.heap.size q.world w' := fun q => by
                  have hq := HP6.out.below (q.below)
                  have h := penSum_any w2.heap.size pb hb ob left5 O (I ++ b.take (a + k)) q.world hq.pen (by have := HIL.out; simp; omega) (hq.hasK HK.out)
                  rwa [HMD.out] at h
                have ho4 : ∀ q : Kept wr, Calls Tryd.prog 21 #[.slice kp key.length kc, .slice (cutAt p0 c0 0) (a + k) c0] q.world fun en w' => en = .returned (.agg (arr (macD key (b.take (a + k))))) ∧ Below q.world.heap.size q.world w' := fun q => by
                  have hq := HP6.out.below (q.below)
                  have hcb := (HB.out.turns hq.turns (fun _ _ _ h => h)).cut_at (a := 0) (k := a + k) (by omega)
                  exact macOf_n key (b.take (a + k)) _ _ _ _ _ _ q.world (HKY.out.turns hq.turns (fun _ _ _ h => h)) hcb (by omega) (by simp; omega) (hq.hasK HK.out)
                have he4 := fun w => eq25 (macD key (b.take (a + k))) (macD key (b.take (a + k))) (macD_length _ _) (macD_length _ _) w
                have HS4 := Calm.hid hs4
                have HO4 := Calm.hid ho4
                clear hs4 ho4
                rw [decide_eq_true rfl] at he4
                by_cases h3 : zi.tmod 3 = 0
                · go_wp2
                  refine Calm.region_k 16 (by kernel_rfl) (by kernel_rfl) ?_
                  simp only [List.take_succ_cons, List.take_zero, List.drop_succ_cons, List.drop_zero]
                  repeat (go_big_quiet_step (first | (go_at_call 24; exact Kept.call (HS4.out _)) | (go_at_call 21; exact Kept.call (HO4.out _))))
                  refine wpQuiet_nil ?_
                  rintro _ ⟨nq, rfl⟩
                  clear c4
                  have HP7 := Calm.hid (HP6.out.below nq.below)
                  refine wpList_nil ?_
                  go_wp2
                  go_roundw
                  case rel => exact ⟨a + k, i + 1, left5, by go_num, by go_num, by omega, by omega, HP7.out⟩
                  case measure => simp [intOf]; omega
                · have h3' : (zi.tmod 3 == 0) = false := by simp [h3]
                  go_wp2
                  refine Calm.region_k 16 (by kernel_rfl) (by kernel_rfl) ?_
                  simp only [List.take_succ_cons, List.take_zero, List.drop_succ_cons, List.drop_zero]
                  repeat (go_big_quiet_step (fail))
                  refine wpQuiet_nil ?_
                  rintro _ ⟨nq, rfl⟩
                  clear c4 h3' h3
                  have HP7 := Calm.hid (HP6.out.below nq.below)
                  refine wpList_nil ?_
                  go_wp2
                  go_roundw
                  case rel => exact ⟨a + k, i + 1, left5, by go_num, by go_num, by omega, by omega, HP7.out⟩
                  case measure => simp [intOf]; omega
        · skip
          have hcap := HB.out.le
          have hcb := (HB.out.turns hP.turns (fun _ _ _ h => h)).cut_at (a := a) (k := b.length - a) (by omega)
          have hda : (b.drop a).take (b.length - a) = b.drop a := List.take_of_length_le (by simp)
          rw [hda] at hcb
          have HC := Calm.hid hcb
          have HP := Calm.hid hP
          clear hcb hP hda
          go_wp2_with fail
          refine (penWrite_any w2.heap.size pb hb ob left O (I ++ b.take a) (b.drop a) (b.length - a) (cutAt p0 c0 a) (c0 - a) wr HP.out.pen HC.out (by have := HIL.out; simp; omega) (fun ad had hpos e => ?_) (HP.out.hasK HK.out) (by have := HK.out.pos; have := HSZ.out; omega)).mono ?_
          · obtain ⟨ad', hp0, hbk⟩ := cutAt_block ad had
            simp at hpos
            have := World.block_lt_of_cell? w _ (HB.out.at_ ad' hp0 0 (by omega))
            have e2 : (ad'.add 0).block = ad'.block := by unfold Addr.add; split <;> rfl
            have := HP.out.pen.hb_
            have := HSZ.out
            omega
          rintro en w5 ⟨rfl, left5, hp5, ht5, hl5⟩
          rw [List.append_assoc, List.take_append_drop] at hp5
          have HP5 := Calm.hid (HP.out.write HSZ.out hp5 ht5)
          clear hp5 ht5 hl5
          go_wp2_with fail
          refine (penSum_any w2.heap.size pb hb ob left5 O (I ++ b) w5 HP5.out.pen (by have := HIL.out; simp; omega) (HP5.out.hasK HK.out)).mono ?_
          rintro en w6 ⟨rfl, hb6⟩
          rw [HMD.out]
          have HP6 := Calm.hid (HP5.out.below hb6)
          clear hb6
          obtain ⟨m, hm⟩ : ∃ m, m = macD key b := ⟨_, rfl⟩
          have HML : Hid (m.length = 32) := by show m.length = 32; rw [hm, macD_length]
          rw [← hm]
          have HM := Calm.hid hm
          clear hm
          have HZ6 : Hid (Rw (w6.alloc (.cells #[.int .u8 0, .int .u8 0, .int .u8 0, .int .u8 0, .int .u8 0, .int .u8 0, .int .u8 0, .int .u8 0, .int .u8 0, .int .u8 0, .int .u8 0, .int .u8 0, .int .u8 0, .int .u8 0, .int .u8 0, .int .u8 0, .int .u8 0, .int .u8 0, .int .u8 0, .int .u8 0, .int .u8 0, .int .u8 0, .int .u8 0, .int .u8 0, .int .u8 0, .int .u8 0, .int .u8 0, .int .u8 0, .int .u8 0, .int .u8 0, .int .u8 0, .int .u8 0] 25)) w6.heap.size (zero32.map bv) 25) := Rw.new w6 _ 25
          go_wp2_with (refine wpList_store_rw rfl 25 (.tmp 15) (.tmp 107) rfl w6.heap.size (m.map bv) rfl rfl 25 _ HZ6.out (by rw [List.length_map, HML.out]; kernel_rfl) (by rw [List.length_map, List.length_map, HML.out]; rfl) (BytesOf.one _) ?_; intro w7 hr7 ht7; refine wpList_nil ?_)
          have HP7 := Calm.hid (HP6.out.below (new_stored ht7))
          have HR7 := Calm.hid hr7
          clear hr7 ht7 HZ6
          have hs7 : ∀ q : Kept w7, Calls Tryd.prog 24 #[.pointer (some ⟨pb, 0, none⟩)] q.world fun en w' => en = .returned (.agg (arr m)) ∧ Below q.world.heap.size q.world w' := fun q => by
            have hq := HP7.out.below q.below
            have h := penSum_any w2.heap.size pb hb ob left5 O (I ++ b) q.world hq.pen (by have := HIL.out; simp; omega) (hq.hasK HK.out)
            rwa [HMD.out, ← HM.out] at h
          have ho7 : ∀ q : Kept w7, Calls Tryd.prog 21 #[.slice kp key.length kc, .slice p0 b.length c0] q.world fun en w' => en = .returned (.agg (arr m)) ∧ Below q.world.heap.size q.world w' := fun q => by
            have hq := HP7.out.below q.below
            rw [HM.out]
            exact macOf_n key b _ _ _ _ _ _ q.world (HKY.out.turns hq.turns (fun _ _ _ h => h)) (HB.out.turns hq.turns (fun _ _ _ h => h)) (by omega) (by omega) (hq.hasK HK.out)
          have hw7 : ∀ q : Kept w7, Calls Tryd.prog 22 #[] q.world fun en w' => en = .returned (.bool true) ∧ Below q.world.heap.size q.world w' := fun q =>
            wakes2_any q.world ((HP7.out.below q.below).hasK HK.out)
          have hl7 : ∀ q : Kept w7, (Instr.loadAt 25 (.pointer (some ⟨w6.heap.size, 0, none⟩))).run Tryd.prog q.world = .ok (.agg (arr m)) q.world := fun q =>
            load25 (HR7.out.below q.below) HML.out
          have he7 := fun w => eq25 m m HML.out HML.out w
          rw [decide_eq_true rfl] at he7
          have HS7 := Calm.hid hs7
          have HO7 := Calm.hid ho7
          have HW7 := Calm.hid hw7
          have HL7 := Calm.hid hl7
          clear hs7 ho7 hw7 hl7
          go_frame
          refine Calm.region_k 14 (by kernel_rfl) (by kernel_rfl) ?_
          simp only [List.take_succ_cons, List.take_zero, List.drop_succ_cons, List.drop_zero]
          refine wpQuiet_load rfl 25 (.tmp 15) rfl w6.heap.size rfl _ (by rintro _ ⟨q, rfl⟩; exact HL7.out q) ?_
          go_frame
          repeat (go_big_quiet_step (first | (go_at_call 24; exact Kept.call (HS7.out _)) | (go_at_call 21; exact Kept.call (HO7.out _)) | (go_at_call 22; exact Kept.call (HW7.out _))))
          refine wpQuiet_load rfl 25 (.tmp 15) rfl w6.heap.size rfl _ (by rintro _ ⟨q, rfl⟩; exact HL7.out q) ?_
          go_frame
          repeat (go_big_quiet_step (first | (go_at_call 24; exact Kept.call (HS7.out _)) | (go_at_call 21; exact Kept.call (HO7.out _)) | (go_at_call 22; exact Kept.call (HW7.out _))))
          refine wpQuiet_nil ?_
          rintro _ ⟨nq, rfl⟩
          have HP8 := Calm.hid (HP7.out.below nq.below)
          go_wp2
          go_ret
          exact ⟨rfl, HP8.out.turns.below (fun _ _ h => h)⟩
end Go.Proofs.YtpbahoapjkmcjaaDoor
