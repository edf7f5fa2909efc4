/-
  However bytes are written to a hash, piece by piece, the digest is that of the bytes: the walk of ShaPieces.
-/
import Derived.Test.YtpbahoapjkmcjaaDoorNilW
import Derived.Test.YtpbahoapjkmcjaaDoorCut
namespace Go.Proofs.YtpbahoapjkmcjaaDoor
open Go.RowKit Go.Sha Go.Calm

theorem tmod_cases (z m : Int) (hm : 0 < m) : ∃ k : Nat, (k : Int) < m ∧ (z.tmod m = (k : Int) ∨ (z.tmod m = -(k : Int) ∧ 0 < k)) := by
  have h1 := Int.tmod_lt_of_pos z hm
  have h2 : -m < z.tmod m := Int.lt_tmod_of_pos z hm
  by_cases h : 0 ≤ z.tmod m
  · exact ⟨(z.tmod m).toNat, by omega, .inl (by omega)⟩
  · exact ⟨(-(z.tmod m)).toNat, by omega, .inr ⟨by omega, by omega⟩⟩

theorem write_n (hb : Nat) (left : Value) (m b : List UInt8) (n : Nat) (p : Option Addr) (cap : Nat) (w : World) (h : IsHash w hb left m) (hs : BytesOf w p n cap b) (hlen : m.length + b.length < 70368744177664)
    (hne : ∀ ad, p = some ad → 0 < b.length → ad.block ≠ hb) (hK : HasK w) (h0 : 0 < hb) :
    Calls Tryd.prog 19 #[.pointer (some ⟨hb, 0, none⟩), .slice p n cap] w fun en w' =>
      en = .returned (.tuple #[]) ∧ ∃ left', IsHash w' hb left' (m ++ b) ∧ Turns (fun k => k = hb ∨ left.ownBlock = some k) w w' ∧ (∀ k, left'.ownBlock = some k → w.heap.size ≤ k) := by
  obtain rfl := hs.len
  exact write_any hb left m b p cap w h hs hlen hne hK h0
theorem of_n (b : List UInt8) (n : Nat) (p : Option Addr) (cap : Nat) (w : World) (hs : BytesOf w p n cap b) (hlen : b.length < 35184372088832) (hK : HasK w) :
    Calls Tryd.prog 14 #[.slice p n cap] w fun en w' => en = .returned (.agg (arr (digest b))) ∧ Below w.heap.size w w' := by
  obtain rfl := hs.len
  exact of_any b p cap w hs hlen hK

theorem run_cut22 (w : World) (p : Option Addr) (n c a k : Nat) (hc : a + k ≤ c) :
    (Instr.slice 22 (.slice p n c) (some (.int .i64 a)) (some (.int .i64 ((a : Int) + (k : Int)))) none).run Tryd.prog w = .ok (.slice (cutAt p c a) k (c - a)) w :=
  run_cut Tryd.underlying22 Tryd.info5 w p n c a k hc _ rfl
theorem run_upto22 (w : World) (p : Option Addr) (n c k : Nat) (hc : k ≤ c) :
    (Instr.slice 22 (.slice p n c) none (some (.int .i64 k)) none).run Tryd.prog w = .ok (.slice (cutAt p c 0) k c) w :=
  run_upto Tryd.underlying22 Tryd.info5 w p n c k hc
theorem run_from22 (w : World) (p : Option Addr) (n c a : Nat) (hc : a ≤ n) :
    (Instr.slice 22 (.slice p n c) (some (.int .i64 a)) none none).run Tryd.prog w = .ok (.slice (cutAt p c a) (n - a) (c - a)) w :=
  run_from Tryd.underlying22 Tryd.info5 w p n c a hc
theorem run_upto22' (w : World) (p : Option Addr) (n c a k : Nat) (hc : a + k ≤ c) :
    (Instr.slice 22 (.slice p n c) none (some (.int .i64 ((a : Int) + (k : Int)))) none).run Tryd.prog w = .ok (.slice (cutAt p c 0) (a + k) c) w :=
  run_upto Tryd.underlying22 Tryd.info5 w p n c (a + k) hc
attribute [local go_sem high] run_cut22 run_upto22 run_upto22' run_from22

theorem load25 {w : World} {g : Nat} {l : List UInt8} (h : Rw w g (l.map bv) 25) (hl : l.length = 32) : (Instr.loadAt 25 (.pointer (some ⟨g, 0, none⟩))).run Tryd.prog w = .ok (.agg (arr l)) w := by
  have h32 : (l.map bv).toArray.size = 32 := by simp [hl]
  have := run_loadVar_row w g 25 25 (l.map bv).toArray (0, 0) _ h Tryd.underlying25 rfl (by rw [h32]; exact (show (Tryd.prog.info? 25).map (·.size) = some 32 by kernel_rfl))
  simp only [Instr.loadAt, Instr.sureAddr, Sem.run_bind, Sem.run_pure, Result.andThen_ok, this]
  rfl

theorem wpQuiet_load {P : Program} {ops : Array Oper} {C : World → Prop} {Q : Act → Prop} {a : Act} {o : Oper} {rest : List Oper} (hw : Region.wanted o (yielded ops a.tmps) = true) (ty : TypeId) (x : Operand) (ho : o.op = .load ty x)
    (g : Nat) (hx : a.eval x = .pointer (some ⟨g, 0, none⟩)) (v : Value) (hl : ∀ w, C w → (Instr.loadAt ty (.pointer (some ⟨g, 0, none⟩))).run P w = .ok v w) (h : wpQuiet P ops C Q rest (a.put o.dst v)) : wpQuiet P ops C Q (o :: rest) a := by
  refine BigFrame.wpQuiet_want hw fun K hK => ⟨v, fun w hC => ?_, hK _ h⟩
  unfold Oper.quietAt execOp
  simp only [ho, hx, Sem.run_bind, hl w hC, Result.andThen_ok, Sem.run_pure]
  exact ⟨rfl, rfl⟩

/-- ShaPieces: the hash holds the first bytes. -/
structure PL (w : World) (m : List UInt8) (left : Value) (wr : World) : Prop where
  hash : IsHash wr w.heap.size left m
  turns : Turns (fun _ => False) w wr
  own : ∀ k, left.ownBlock = some k → w.heap.size < k
/-- .. and a piece lies beside it. -/
structure PI (w : World) (m : List UInt8) (left pv : Value) (n : Nat) (wr : World) : Prop where
  base : PL w m left wr
  piece : ∃ l : List UInt8, wr.ownsRow (w.heap.size + 1) 5 1 pv n (l.map bv)
  apart : ∀ k, pv.ownBlock = some k → left.ownBlock ≠ some k

theorem PL.hasK {w wr : World} {m : List UInt8} {left : Value} (h : PL w m left wr) (hK : HasK w) : HasK wr := hK.turns h.turns (fun h => h)

theorem PL.below {w wr w2 : World} {m : List UInt8} {left : Value} (h : PL w m left wr) (hb : Below wr.heap.size wr w2) : PL w m left w2 :=
  ⟨h.hash.below hb, h.turns.trans (Turns.of_below hb), h.own⟩
theorem below_nil {w w1 : World} (h : w.grownBy w1 (Value.ownBlock (.slice none 0 0))) : Below w.heap.size w w1 :=
  ⟨h.os, h.tape, h.output, h.size, fun k hk => h.block k hk (by simp [Value.ownBlock])⟩
theorem PI.start {w wr w2 w3 : World} {m P : List UInt8} {left left' pv : Value} {n : Nat} (h : PL w m left wr) (hb : Below wr.heap.size wr w2) (ho : w2.ownsRow wr.heap.size 5 1 pv n (P.map bv))
    (hh : IsHash w3 w.heap.size left' (m ++ P)) (ht : Turns (fun k => k = w.heap.size ∨ left.ownBlock = some k) w2 w3) (hl : ∀ k, left'.ownBlock = some k → w2.heap.size ≤ k) : PI w (m ++ P) left' pv n w3 := by
  have hlt := h.hash.row.lt
  have hs := hb.size
  refine ⟨⟨hh, (h.turns.trans (Turns.of_below hb)).step ht (fun b hb e => ?_), fun k hk => by have := hl k hk; omega⟩, ⟨P, own_base (own_turns ho ht (fun k hk e => ?_)) (fun k hk => by have := (ho.lt k hk).1; omega)⟩, fun k hk e => by have := (ho.lt k hk).2; have := hl k e; omega⟩
  · rcases e with e | e
    · omega
    · have := h.own b e; omega
  · have := (ho.lt k hk).1
    rcases e with e | e
    · omega
    · have := (h.hash.own.lt k e).2; omega
theorem PI.at_ {w wr : World} {m : List UInt8} {left : Value} {p : Option Addr} {n c j : Nat} (h : PI w m left (.slice p n c) n wr) (hj : j < n) :
    ∃ g x, p = some ⟨g, 0, none⟩ ∧ wr.cell? ⟨g, j, none⟩ = some x ∧ wr.frozen? ⟨g, j, none⟩ = false ∧ PI w m left (.slice p n c) n (wr.setCell ⟨g, j, none⟩ (bv 7)) := by
  obtain ⟨l, hl⟩ := h.piece
  have hn : l.length = n := by simpa using hl.1
  obtain ⟨p', c', hv, hby, hp⟩ := BytesOf.own hl
  simp only [Value.slice.injEq, true_and] at hv
  obtain ⟨rfl, rfl⟩ := hv
  obtain ⟨ad, rfl⟩ : ∃ ad, p = some ad := by
    cases p with
    | none => have := (hby.nil rfl).1; omega
    | some ad => exact ⟨ad, rfl⟩
  obtain ⟨b, o, rfl⟩ := hby.plain (by omega)
  obtain ⟨_, h0, h1, h2⟩ := hp _ rfl
  simp at h0 h1 h2; subst h0
  have hjl : j < (l.map bv).length := by rw [List.length_map, hn]; exact hj
  obtain ⟨x, hx⟩ : ∃ x, (l.map bv)[j]? = some x := ⟨_, List.getElem?_eq_getElem hjl⟩
  obtain ⟨s1, s2⟩ := hl.stored j (bv 7)
  have hne : left.ownBlock ≠ some b := h.apart b h2
  have ht : Turns (fun k => k = b) wr (wr.setCell ⟨b, j, none⟩ (bv 7)) := Turns.setCell (R := fun k => k = b) (a := ⟨b, j, none⟩) (Turns.refl _ _) (fun _ => rfl) _
  refine ⟨b, x, rfl, by rw [hl.cellAt j (by omega), hx], hl.frozenAt j, ⟨⟨h.base.hash.row.turns ht (by omega), own_turns h.base.hash.own ht (fun k hk e => ?_)⟩, h.base.turns.setCell (fun h => ?_) _, h.base.own⟩, ⟨l.set j 7, ?_⟩, h.apart⟩
  · subst e; exact hne hk
  · simp at h; omega
  · rw [List.map_set]; exact s1

set_option maxRecDepth 100000 in
set_option maxHeartbeats 1000000 in
theorem shaPieces_walk (b : List UInt8) (p0 : Option Addr) (c0 : Nat) (z : List Int) (p1 : Option Addr) (c1 : Nat) (w : World) (hb : BytesOf w p0 b.length c0 b) (hz : IntsOf w p1 z.length c1 z) (hK : HasK w) :
    Calls Tryd.prog 7 #[.slice p0 b.length c0, .slice p1 z.length c1] w fun en w' => en = .returned (.bool true) ∧ Below w.heap.size w w' := by
  obtain ⟨i0, hi0, hz0, hz1, hz2⟩ := info_parts Tryd.info5
  have HB := Calm.hid hb
  have HZ := Calm.hid hz
  have HK := Calm.hid hK
  have hguard := Tryd.noGuard25
  clear hb hz hK
  by_cases h1 : 16384 < b.length
  · have hd : decide (16384 < (b.length : Int)) = true := by simp; omega
    go_enter Tryd.func7, Tryd.ntmps7
    go_wp2_with fail
    refine (wakes_any w HK.out).mono ?_
    rintro en w2 ⟨rfl, hb2⟩
    have HB2 := Calm.hid hb2
    clear hb2
    go_wp2
    go_ret
    exact ⟨rfl, HB2.out⟩
  by_cases h2 : 400 < z.length
  · have hd : decide (16384 < (b.length : Int)) = false := by simp; omega
    have hd' : decide (400 < (z.length : Int)) = true := by simp; omega
    go_enter Tryd.func7, Tryd.ntmps7
    go_wp2_with fail
    refine (wakes_any w HK.out).mono ?_
    rintro en w2 ⟨rfl, hb2⟩
    have HB2 := Calm.hid hb2
    clear hb2
    go_wp2
    go_ret
    exact ⟨rfl, HB2.out⟩
  have hd : decide (16384 < (b.length : Int)) = false := by simp; omega
  have hd' : decide (400 < (z.length : Int)) = false := by simp; omega
  go_enter Tryd.func7, Tryd.ntmps7
  go_wp2_with fail
  refine (new_any _).mono ?_
  rintro en w1 ⟨rfl, hh1, hb1⟩
  have hP : PL w [] (.slice none 0 0) w1 := ⟨hh1, Turns.of_below hb1, fun k hk => by simp [Value.ownBlock] at hk⟩
  clear hh1 hb1 hd hd'
  have HP := Calm.hid hP
  clear hP
  go_wp2
  go_loopw [6, 7] (fun t c wr => ∃ (a i : Nat) (left : Value), t = .int .i64 a ∧ c = .int .i64 i ∧ a ≤ b.length ∧ i ≤ z.length ∧ PL w (b.take a) left wr) (fun _ c _ => z.length - (intOf c).toNat)
  case atStart => exact ⟨0, 0, _, rfl, rfl, by omega, by omega, HP.out⟩
  case round =>
    obtain ⟨a, i, left, rfl, rfl, ha, hi, hP⟩ := hrel
    clear HP
    by_cases hlt : i < z.length
    · obtain ⟨bb, oo, rfl⟩ := HZ.out.plain (by omega)
      obtain ⟨zi, hzi⟩ : ∃ zi, zi = z.getD i 0 := ⟨_, rfl⟩
      have cz : wr.cell? ⟨bb, oo + i, none⟩ = some (.int .i64 zi) := by
        rw [hzi]; exact (HZ.out.turns hP.turns (fun _ _ _ h => h)).cell hlt
      have HZI := Calm.hid hzi
      clear hzi
      have hcap := HB.out.le
      have HP := Calm.hid hP
      clear hP
      obtain ⟨k, hk, hr⟩ := tmod_cases zi ((b.length : Int) - a + 1) (by omega)
      have hcb := HB.out.turns HP.out.turns (fun _ _ _ h => h) |>.cut_at (a := a) (k := k) (by omega)
      have HC := Calm.hid hcb
      clear hcb
      have hak : a + k ≤ c0 := by omega
      have hkd : decide ((k : Int) < 0) = false := by simp
      rcases hr with hr | ⟨hr, hk0⟩
      all_goals
        go_wp2_with (at_builtin; go_loud (refine wpList_append_any rfl (.const (.slice none 0 0)) (.tmp 47) 22 rfl wr.heap.size 5 i0 (.int .u8 0) 1 1 Tryd.underlying22 hi0 hz0 hz1 hz2 rfl (by decide) _ _ _ rfl (World.ownsRow_nil _ _ _ _) (cutAt p0 c0 a) k (c0 - a) (((b.drop a).take k).map bv) rfl (by have := HC.out.len; simp at this ⊢; omega) HC.out.nil HC.out.news (BytesOf.one _) ?_ ?_ ?_ ?_))
        case refine_1 => simp [maxLen]; omega
        case refine_2 => simp; omega
        case refine_3 => exact Nat.le_refl _
        intro v2 w2 hown2 hg2
        have hbel := below_nil hg2
        replace hown2 : w2.ownsRow wr.heap.size 5 1 v2 k (((b.drop a).take k).map bv) := by simpa using hown2
        obtain ⟨pp, pc, hv2, hby2, hpp⟩ := BytesOf.own (l := (b.drop a).take k) hown2
        subst hv2
        have hP2 := HP.out.below hbel
        have hK2 := hP2.hasK HK.out
        have HO := Calm.hid hown2
        have HBE := Calm.hid hbel
        have HBY := Calm.hid hby2
        have HPP := Calm.hid hpp
        have HP2 := Calm.hid hP2
        have HK2 := Calm.hid hK2
        clear hown2 hg2 hbel hby2 hpp hP2 hK2
        go_wp2_with fail
        refine (write_n w.heap.size left (b.take a) ((b.drop a).take k) k pp pc w2 HP2.out.hash HBY.out (by simp; omega) (fun ad had _ e => ?_) HK2.out HK.out.pos).mono ?_
        · have := HPP.out ad had
          have := HP.out.hash.row.lt
          omega
        rintro en w3 ⟨rfl, left3, hh3, ht3, hl3⟩
        have hI := PI.start (n := k) HP.out HBE.out HO.out hh3 ht3 hl3
        have ht : b.take a ++ (b.drop a).take k = b.take (a + k) := List.take_add.symm
        rw [ht] at hI
        clear hh3 ht3 hl3 ht
        have HI := Calm.hid hI
        clear hI cz
        go_wp2
        go_loopw [10] (fun c wr => ∃ j : Nat, j ≤ k ∧ c = .int .i64 j ∧ PI w (b.take (a + k)) left3 (.slice pp k pc) k wr) (fun c _ => k - (intOf c).toNat)
        case atStart => exact ⟨0, Nat.zero_le _, rfl, HI.out⟩
        case round =>
          obtain ⟨j, hj, rfl, hI⟩ := hrel
          clear HI
          by_cases hjk : j < k
          · obtain ⟨g, x, rfl, hx, hfz, hI2⟩ := hI.at_ hjk
            have HI2 := Calm.hid hI2
            clear hI hI2
            go_wp2
            go_roundw
            case rel => exact ⟨j + 1, by omega, by go_num, HI2.out⟩
            case measure => simp [intOf]; omega
          · have hP4 := hI.base
            have HP4 := Calm.hid hP4
            have HJ : Hid (j = k) := show j = k by omega
            clear hI hP4
            have c4 : ∀ q : Kept wr, q.world.cell? ⟨bb, oo + i, none⟩ = some (.int .i64 zi) := fun q => by
              rw [HZI.out]
              exact (HZ.out.turns ((HP4.out.below (q.below)).turns) (fun _ _ _ h => h)).cell hlt
            have hs4 : ∀ q : Kept wr, Calls Tryd.prog 20 #[.pointer (some ⟨w.heap.size, 0, none⟩)] q.world fun en w' => en = .returned (.agg (arr (digest (b.take (a + k))))) ∧ Below q.world.heap.size q.world w' := fun q => by
              have hq := HP4.out.below (q.below)
              exact sum_any w.heap.size left3 _ q.world hq.hash (by simp; omega) (hq.hasK HK.out)
            have ho4 : ∀ q : Kept wr, Calls Tryd.prog 14 #[.slice (cutAt p0 c0 0) (a + k) c0] q.world fun en w' => en = .returned (.agg (arr (digest (b.take (a + k))))) ∧ Below q.world.heap.size q.world w' := fun q => by
              have hq := HP4.out.below (q.below)
              have hcb := (HB.out.turns hq.turns (fun _ _ _ h => h)).cut_at (a := 0) (k := a + k) (by omega)
              exact of_n _ _ _ _ q.world hcb (by simp; omega) (hq.hasK HK.out)
            have he4 := fun w => eq25 (digest (b.take (a + k))) (digest (b.take (a + k))) (digest_length _) (digest_length _) w
            have HS4 := Calm.hid hs4
            have HO4 := Calm.hid ho4
            clear hs4 ho4
            rw [decide_eq_true rfl] at he4
            by_cases h3 : zi.tmod 3 = 0
            · go_wp2
              refine Calm.region_k 15 (by kernel_rfl) (by kernel_rfl) ?_
              simp only [List.take_succ_cons, List.take_zero, List.drop_succ_cons, List.drop_zero]
              repeat (go_big_quiet_step (first | (go_at_call 20; exact Kept.call (HS4.out _)) | (go_at_call 14; exact Kept.call (HO4.out _))))
              refine wpQuiet_nil ?_
              rintro _ ⟨nq, rfl⟩
              clear c4
              have HP5 := Calm.hid (HP4.out.below nq.below)
              refine wpList_nil ?_
              go_wp2
              go_roundw
              case rel => exact ⟨a + k, i + 1, left3, by go_num, by go_num, by omega, by omega, HP5.out⟩
              case measure => simp [intOf]; omega
            · have h3' : (zi.tmod 3 == 0) = false := by simp [h3]
              go_wp2
              refine Calm.region_k 15 (by kernel_rfl) (by kernel_rfl) ?_
              simp only [List.take_succ_cons, List.take_zero, List.drop_succ_cons, List.drop_zero]
              repeat (go_big_quiet_step (fail))
              refine wpQuiet_nil ?_
              rintro _ ⟨nq, rfl⟩
              clear c4 h3' h3
              have HP5 := Calm.hid (HP4.out.below nq.below)
              refine wpList_nil ?_
              go_wp2
              go_roundw
              case rel => exact ⟨a + k, i + 1, left3, by go_num, by go_num, by omega, by omega, HP5.out⟩
              case measure => simp [intOf]; omega
    · have hcap := HB.out.le
      have hcb := (HB.out.turns hP.turns (fun _ _ _ h => h)).cut_at (a := a) (k := b.length - a) (by omega)
      have hda : (b.drop a).take (b.length - a) = b.drop a := List.take_of_length_le (by simp)
      rw [hda] at hcb
      have HC := Calm.hid hcb
      have HP := Calm.hid hP
      clear hcb hP hda
      go_wp2_with fail
      refine (write_n w.heap.size left (b.take a) (b.drop a) (b.length - a) (cutAt p0 c0 a) (c0 - a) wr HP.out.hash HC.out (by simp; omega) (fun ad had hpos e => ?_) (HP.out.hasK HK.out) HK.out.pos).mono ?_
      · obtain ⟨ad', hp0, hbk⟩ := cutAt_block ad had
        simp at hpos
        have := World.block_lt_of_cell? w _ (HB.out.at_ ad' hp0 0 (by omega))
        have e2 : (ad'.add 0).block = ad'.block := by unfold Addr.add; split <;> rfl
        omega
      rintro en w5 ⟨rfl, left5, hh5, ht5, hl5⟩
      rw [List.take_append_drop] at hh5
      have hP5 : PL w b left5 w5 := ⟨hh5, HP.out.turns.step ht5 (fun k hk e => by
        rcases e with e | e
        · omega
        · have := HP.out.own k e; omega), fun k hk => by have := hl5 k hk; have := HP.out.hash.row.lt; omega⟩
      have HP5 := Calm.hid hP5
      clear hh5 ht5 hl5 hP5
      go_wp2_with fail
      refine (sum_any w.heap.size left5 b w5 HP5.out.hash (by omega) (HP5.out.hasK HK.out)).mono ?_
      rintro en w6 ⟨rfl, hb6⟩
      have HP6 := Calm.hid (HP5.out.below hb6)
      clear hb6
      have hz6 := Rw.new w6 #[.int .u8 0, .int .u8 0, .int .u8 0, .int .u8 0, .int .u8 0, .int .u8 0, .int .u8 0, .int .u8 0, .int .u8 0, .int .u8 0, .int .u8 0, .int .u8 0, .int .u8 0, .int .u8 0, .int .u8 0, .int .u8 0, .int .u8 0, .int .u8 0, .int .u8 0, .int .u8 0, .int .u8 0, .int .u8 0, .int .u8 0, .int .u8 0, .int .u8 0, .int .u8 0, .int .u8 0, .int .u8 0, .int .u8 0, .int .u8 0, .int .u8 0, .int .u8 0] 25
      have HZ6 := Calm.hid hz6
      clear hz6
      go_wp2_with (refine wpList_store_rw rfl 25 (.tmp 11) (.tmp 85) rfl w6.heap.size _ rfl rfl 25 _ HZ6.out (by rw [List.length_map, digest_length]; kernel_rfl) (by rw [List.length_map, digest_length]; rfl) (BytesOf.one _) ?_; intro w7 hr7 ht7; refine wpList_nil ?_)
      have hT7 : Turns (fun _ => False) w6 w7 := ((Turns.refl _ w6).alloc _).step ht7 (fun k hk e => by omega)
      have hb7 : Below w6.heap.size w6 w7 := hT7.below (fun _ _ h => h)
      have HP7 := Calm.hid (HP6.out.below hb7)
      have HR7 := Calm.hid hr7
      clear hr7 ht7 hb7 hT7 HZ6
      have hs7 : ∀ q : Kept w7, Calls Tryd.prog 20 #[.pointer (some ⟨w.heap.size, 0, none⟩)] q.world fun en w' => en = .returned (.agg (arr (digest b))) ∧ Below q.world.heap.size q.world w' := fun q => by
        have hq := HP7.out.below q.below
        exact sum_any w.heap.size left5 _ q.world hq.hash (by omega) (hq.hasK HK.out)
      have ho7 : ∀ q : Kept w7, Calls Tryd.prog 14 #[.slice p0 b.length c0] q.world fun en w' => en = .returned (.agg (arr (digest b))) ∧ Below q.world.heap.size q.world w' := fun q => by
        have hq := HP7.out.below q.below
        exact of_any _ _ _ q.world (HB.out.turns hq.turns (fun _ _ _ h => h)) (by omega) (hq.hasK HK.out)
      have hw7 : ∀ q : Kept w7, Calls Tryd.prog 13 #[] q.world fun en w' => en = .returned (.bool true) ∧ Below q.world.heap.size q.world w' := fun q =>
        wakes_any q.world ((HP7.out.below q.below).hasK HK.out)
      have hl7 : ∀ q : Kept w7, (Instr.loadAt 25 (.pointer (some ⟨w6.heap.size, 0, none⟩))).run Tryd.prog q.world = .ok (.agg (arr (digest b))) q.world := fun q =>
        load25 (HR7.out.below q.below) (digest_length b)
      have he7 := fun w => eq25 (digest b) (digest b) (digest_length _) (digest_length _) w
      rw [decide_eq_true rfl] at he7
      have HS7 := Calm.hid hs7
      have HO7 := Calm.hid ho7
      have HW7 := Calm.hid hw7
      have HL7 := Calm.hid hl7
      clear hs7 ho7 hw7 hl7
      go_frame
      refine Calm.region_k 14 (by kernel_rfl) (by kernel_rfl) ?_
      simp only [List.take_succ_cons, List.take_zero, List.drop_succ_cons, List.drop_zero]
      refine wpQuiet_load rfl 25 (.tmp 11) rfl w6.heap.size rfl _ (by rintro _ ⟨q, rfl⟩; exact HL7.out q) ?_
      go_frame
      repeat (go_big_quiet_step (first | (go_at_call 20; exact Kept.call (HS7.out _)) | (go_at_call 14; exact Kept.call (HO7.out _)) | (go_at_call 13; exact Kept.call (HW7.out _))))
      refine wpQuiet_load rfl 25 (.tmp 11) rfl w6.heap.size rfl _ (by rintro _ ⟨q, rfl⟩; exact HL7.out q) ?_
      go_frame
      repeat (go_big_quiet_step (first | (go_at_call 20; exact Kept.call (HS7.out _)) | (go_at_call 14; exact Kept.call (HO7.out _)) | (go_at_call 13; exact Kept.call (HW7.out _))))
      refine wpQuiet_nil ?_
      rintro _ ⟨nq, rfl⟩
      have HP8 := Calm.hid (HP7.out.below nq.below)
      refine wpList_nil ?_
      go_wp2
      go_ret
      exact ⟨rfl, HP8.out.turns.below (fun _ _ h => h)⟩
end Go.Proofs.YtpbahoapjkmcjaaDoor
