/-
  The document's New, Send, Take.
-/
import Derived.Test.YtfhjpnhchggljaaRefW
namespace Go.Proofs.Ytfhjpnhchggljaa
open Go.RowKit Go.Sha Go.Calm
attribute [local go_sem] Oper.semAt_some
theorem Try.info40 : (Try.prog.info? 40).map (fun i => (i.zero, i.size, i.bytes)) = some (some (.agg #[.int .u8 0, .string ⟨#[]⟩]), 2, 24) := by kernel_rfl
theorem rnew_no (n : Int) (h : n < 2 ∨ 8 < n) (w : World) : Calls Try.prog 10 #[.int .i64 n] w fun e w' => e = .returned (.pointer none) ∧ w' = w := by
  by_cases h2 : n < 2
  · go_enter Try.func10, Try.ntmps10
    go_wp2
    go_ret
    exact ⟨rfl, rfl⟩
  · have h8 : 8 < n := by omega
    go_enter Try.func10, Try.ntmps10
    go_wp2
    go_ret
    exact ⟨rfl, rfl⟩
theorem rnew_yes (n : Int) (h2 : 2 ≤ n) (h8 : n ≤ 8) (w : World) : Calls Try.prog 10 #[.int .i64 n] w fun e w' => e = .returned (.pointer (some ⟨w.heap.size, 0, none⟩)) ∧ w' = w.alloc (.cells #[.int .i64 n, .slice none 0 0] 49) := by
  go_enter Try.func10, Try.ntmps10
  go_wp2
  go_ret
  exact ⟨rfl, rfl⟩
set_option maxRecDepth 100000 in
set_option maxHeartbeats 1000000 in
theorem rsend_no (b n m c : Nat) (p : Option Addr) (to : Nat) (q : Option Addr) (k cq : Nat) (w : World) (hr : Rw w b [.int .i64 n, .slice p m c] 49) (hto : to < 256) (e : Nat)
    (he : (n ≤ to ∧ e = 1) ∨ (to < n ∧ 4096 ≤ m ∧ e = 3) ∨ (to < n ∧ m < 4096 ∧ 65536 < k ∧ e = 2)) :
    Calls Try.prog 12 #[.pointer (some ⟨b, 0, none⟩), .int .u8 to, .slice q k cq] w fun en w' => en = .returned (.int .i64 e) ∧ w' = w := by
  have c0 := hr.cell (i := 0) rfl
  have c1 := hr.cell (i := 1) rfl
  clear hr
  rcases he with ⟨h1, rfl⟩ | ⟨h1, h2, rfl⟩ | ⟨h1, h2, h3, rfl⟩
  all_goals
    go_enter Try.func12, Try.ntmps12
    go_wp2
    go_ret
    exact ⟨rfl, rfl⟩
set_option maxRecDepth 100000 in
set_option maxHeartbeats 1000000 in
theorem rsend_yes (F : Nat → Prop) (b n c : Nat) (p : Option Addr) (L : List (Nat × List UInt8)) (to : Nat) (q : Option Addr) (k cq : Nat) (w : World) (hN : RNetP w F b n L p c) (hto : to < 256)
    (h1 : to < n) (h2 : L.length < 4096) (h3 : k ≤ 65536) (bs : List UInt8) (hq : BytesOf w q k cq bs) (hqF : ∀ ad, q = some ad → 0 < k → ¬ F ad.block) :
    Calls Try.prog 12 #[.pointer (some ⟨b, 0, none⟩), .int .u8 to, .slice q k cq] w fun en w' => en = .returned (.int .i64 0) ∧ Turns F w w' ∧ RNet w' (fun x => F x ∨ w.heap.size ≤ x) b n (L ++ [(to, bs)]) := by
  obtain ⟨i0, hi0, hz0, hz1, hz2⟩ := info_parts Try.info40
  obtain ⟨m, hm⟩ : ∃ m, m = L.length := ⟨_, rfl⟩
  have hr := hN.rw_
  rw [← hm] at hr h2
  have c0 := hr.cell (i := 0) rfl
  have c1 := hr.cell (i := 1) rfl
  have hb := hr.lt
  obtain ⟨R, hR⟩ : ∃ R : Nat → Prop, R = rowBlk p := ⟨_, rfl⟩
  have ks := fun z : KeptR R w => (hq.turns z.turns (fun ad ha h0 hr => hqF ad ha h0 (by rw [hR] at hr; exact (hN.row.blk hr).1))).str Try.underlying31 Try.underlying5 Try.underlying9
  have HN := Calm.hid hN
  have HM := Calm.hid hm
  clear hq hN hqF
  clear hr hm
  go_enter Try.func12, Try.ntmps12
  have HR := Calm.hid hR
  have hbR : ¬ R b := by subst hR; exact fun h => (HN.out.row.blk h).2.1 rfl
  clear hR
  have k1 : ∀ q : KeptR R w, q.world.cell? ⟨b, 1, none⟩ = some (.slice p m c) := fun q => (q.turns.cell hb hbR).trans c1
  go_wp2_with fail
  have hdn : decide (n ≤ to) = false := by simp; omega
  simp only [hdn]
  refine region_lr R [true, true, true, true, true, true, true, true, true, false, false, false, false, false] (by kernel_rfl) (by kernel_rfl) (by kernel_rfl) ?_
  simp only [heads, tails]
  repeat (go_big_quiet_step (fail))
  refine wpQuiet_nil ?_
  refine wpL_step ?_
  go_wp2
  obtain ⟨w3, hw3⟩ : ∃ w3, w3 = (w.alloc (.cells #[.int .u8 to, .string ⟨bs.toArray⟩] 40)).drew := ⟨_, rfl⟩
  have ht3 : Turns (fun _ => False) w w3 := by rw [hw3]; exact ((Turns.refl _ w).alloc _).drew
  have r3 : Rw w3 w.heap.size [.int .u8 to, .string ⟨bs.toArray⟩] 40 := by rw [hw3]; exact (Rw.new w _ 40).drew
  refine ⟨⟨⟨_, ((Turns.refl _ w).alloc _).drew⟩, rfl⟩, ?_⟩
  rw [← hw3]
  have HT3 := Calm.hid ht3
  have HR3 := Calm.hid r3
  have hlt3 := r3.lt
  clear ht3 r3
  clear hw3
  refine wpL_step ?_
  refine wpList_append_keep rfl (.tmp 27) (.tmp 32) 45 rfl 40 i0 _ 2 24 Try.underlying45 hi0 hz0 hz1 hz2 rfl (by decide) F (fun x => F x ∨ w.heap.size ≤ x) b m c p (rcells L) rfl ?_ ?_ ?_ ?_ ⟨w.heap.size, 0, none⟩ 1 1 [.int .u8 to, .string ⟨bs.toArray⟩] rfl rfl ?_ ?_ ?_ ?_ ?_
  · exact (HN.out.row_of HM.out).turns HT3.out (fun _ _ h => h)
  · exact fun k _ h => .inl h
  · have := HT3.out.size; exact fun k hk => .inr (by omega)
  · have := HT3.out.size; omega
  · intro j u hu; rw [add_plain, Nat.zero_add]; exact HR3.out.cell hu
  · exact one2 _ _ rfl rfl
  · simp only [maxLen]; omega
  · omega
  intro p4 c4 w4 hrow ht4 hp4 _
  have HROW := Calm.hid hrow
  have HT4 := Calm.hid ht4
  clear hrow ht4 hp4
  have HTR : Hid (Turns R w w4) := (HT3.out.mono (fun _ _ h => h.elim)).trans (by rw [HR.out]; exact HT4.out)
  have HRW4 : Hid (Rw w4 b [.int .i64 n, .slice p m c] 49) := (by have := HN.out.rw_; rw [← HM.out] at this; exact this.turns HTR.out hbR)
  refine wpList_nil ⟨rfl, rfl, .inr ⟨⟨w4, HTR.out⟩, rfl⟩, ?_⟩
  refine wpL_step ?_
  go_wp2
  refine ⟨⟨⟨w4, HTR.out⟩, rfl⟩, ?_⟩
  refine wpL_step ?_
  go_wp2
  refine ⟨⟨⟨w4, HTR.out⟩, rfl⟩, ?_⟩
  refine wpL_step ?_
  have d1 := HRW4.out.cell (i := 1) rfl
  have f1 := HRW4.out.free 1
  go_wp2
  refine wpL_nil ?_
  go_wp2
  go_ret
  have hlt := HRW4.out.lt
  refine ⟨rfl, ?_, ?_⟩
  · refine (HTR.out.mono fun x _ h => ?_).setCell (fun _ => HN.out.own) _
    rw [HR.out] at h
    exact (HN.out.row.blk h).1
  · refine (RNetP.store HRW4.out (.inl HN.out.own) (by rw [HM.out]; simp) ?_).net
    rw [rcells_append]
    exact HROW.out
theorem rsend_any (F : Nat → Prop) (b n : Nat) (L : List (Nat × List UInt8)) (to : Nat) (q : Option Addr) (k cq : Nat) (w : World) (hN : RNet w F b n L) (hto : to < 256) (bs : List UInt8) (hq : BytesOf w q k cq bs) (hqF : ∀ ad, q = some ad → 0 < k → ¬ F ad.block) :
    Calls Try.prog 12 #[.pointer (some ⟨b, 0, none⟩), .int .u8 to, .slice q k cq] w fun en w' => en = .returned (.int .i64 (sendE n L to bs : Nat)) ∧ Turns F w w' ∧ RNet w' (fun x => F x ∨ w.heap.size ≤ x) b n (sendL n L to bs) := by
  obtain ⟨p, c, hN⟩ := hN
  have hk := hq.len
  have hno : ∀ e, (n ≤ to ∧ e = 1) ∨ (to < n ∧ 4096 ≤ L.length ∧ e = 3) ∨ (to < n ∧ L.length < 4096 ∧ 65536 < k ∧ e = 2) → sendE n L to bs = e →
      Calls Try.prog 12 #[.pointer (some ⟨b, 0, none⟩), .int .u8 to, .slice q k cq] w fun en w' => en = .returned (.int .i64 (sendE n L to bs : Nat)) ∧ Turns F w w' ∧ RNet w' (fun x => F x ∨ w.heap.size ≤ x) b n (sendL n L to bs) := by
    intro e he hs
    refine (rsend_no b n L.length c p to q k cq w hN.rw_ hto e he).mono ?_
    rintro en w' ⟨rfl, rfl⟩
    have hne : e ≠ 0 := by omega
    rw [sendL, hs, if_neg hne]
    exact ⟨rfl, Turns.refl _ _, (hN.mono fun _ _ h => .inl h).net⟩
  by_cases h1 : n ≤ to
  · exact hno 1 (.inl ⟨h1, rfl⟩) (by simp [sendE, h1])
  by_cases h2 : 4096 ≤ L.length
  · exact hno 3 (.inr (.inl ⟨by omega, h2, rfl⟩)) (by simp [sendE, h1, h2])
  by_cases h3 : 65536 < k
  · exact hno 2 (.inr (.inr ⟨by omega, by omega, h3, rfl⟩)) (by rw [← hk] at h3; simp [sendE, h1, h2, h3])
  · have e : sendE n L to bs = 0 := by rw [← hk] at h3; simp [sendE, h1, h2, h3]
    rw [sendL, e, if_pos rfl]
    exact rsend_yes F b n c p L to q k cq w hN hto (by omega) (by omega) (by omega) bs hq hqF
/-- What a function gives back whose results are a letter's cell (the document's) and an error's slot. -/
theorem ret_rletter {fn : Func} {p u : Tmp} (h : fn.results = #[.cell p 40, .tmp u]) {tmps : Array Value} {w : World} {g : Nat} (hp : tmps.getD p undef = .pointer (some ⟨g, 0, none⟩)) {x y e : Value} (hg : Rw w g [x, y] 40) (hu : tmps.getD u undef = e) :
    (results fn tmps).run Try.prog w = .ok (.tuple #[.agg #[x, y], e]) w := by
  rw [results_cell_tmp h, hp, hu]
  have := run_loadVar_row (P := Try.prog) w g 40 40 #[x, y] (0, 0) _ hg Try.underlying40 rfl (by kernel_rfl)
  simp [asAddr, this, Result.andThen]
def rtup (x : Nat × List UInt8) (e : Int) : Value := .tuple #[.agg #[.int .u8 x.1, .string ⟨x.2.toArray⟩], .int .i64 e]
set_option maxRecDepth 100000 in
set_option maxHeartbeats 1000000 in
theorem rtake_out (F : Nat → Prop) (b n : Nat) (L : List (Nat × List UInt8)) (i : Int) (w : World) (hN : RNet w F b n L) (hi : i < 0 ∨ (L.length : Int) ≤ i) :
    Calls Try.prog 14 #[.pointer (some ⟨b, 0, none⟩), .int .i64 i] w fun en w' => en = .returned (rtup (0, []) 1) ∧ Below w.heap.size w w' := by
  obtain ⟨p, c, hN⟩ := hN
  obtain ⟨m, hm⟩ : ∃ m, m = L.length := ⟨_, rfl⟩
  have hr := hN.rw_
  rw [← hm] at hr hi
  have c1 := (hr.alloc (.cells #[.int .u8 0, .string ⟨#[]⟩] 40)).cell (i := 1) rfl
  have hz := Rw.new w #[.int .u8 0, .string ⟨#[]⟩] 40
  have HZ := Calm.hid hz
  clear hN hr hz
  clear hm
  by_cases h0 : i < 0
  all_goals
    go_enter Try.func14, Try.ntmps14
    go_wp2_with (refine wpList_store_rw rfl 40 (.tmp 4) (.tmp 19) rfl w.heap.size [.int .u8 0, .string ⟨#[]⟩] rfl rfl 40 _ HZ.out (by kernel_rfl) rfl (one2 _ _ rfl rfl) ?_; intro w9 hr9 ht9; have HR9 := Calm.hid hr9; have HB9 : Hid (Below w.heap.size w w9) := (((Turns.refl (fun _ => False) w).alloc _).step ht9 (fun k hk e => by omega)).below (fun _ _ h => h); clear hr9 ht9)
    exact bodyPost_ret (ret_rletter rfl rfl HR9.out rfl) rfl ⟨rfl, HB9.out⟩
end Go.Proofs.Ytfhjpnhchggljaa
