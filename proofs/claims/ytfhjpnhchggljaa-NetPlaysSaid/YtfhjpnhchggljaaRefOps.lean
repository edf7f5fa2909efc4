/-
  The document's Double and Hold.
-/
import Derived.Test.YtfhjpnhchggljaaRefTake
namespace Go.Proofs.Ytfhjpnhchggljaa
open Go.RowKit Go.Sha Go.Calm
attribute [local go_sem] Oper.semAt_some
/-- A world in which of what w holds only the blocks that R names have turned, and of block g not the first N cells. -/
structure KeptC (R : Nat → Prop) (w : World) (g N : Nat) where
  world : World
  turns : Turns R w world
  keep : ∀ j, j < N → world.cell? ⟨g, j, none⟩ = w.cell? ⟨g, j, none⟩
instance (R : Nat → Prop) (w : World) (g N : Nat) : Nonempty (KeptC R w g N) := ⟨⟨w, Turns.refl _ _, fun _ _ => rfl⟩⟩
theorem region_lc {P : Program} {id : Nat} {Q : Exit → Act → World → Prop} {w : World} {a : Act} {l : List Oper} (R : Nat → Prop) (g N : Nat) (fs : List Bool) (hm : P.follows .mixedOrders = true) (hB : okB2 l.toArray fs = true) (hL : lastB l.toArray fs = true)
    (h : wpQuiet P l.toArray (fun w' => ∃ k : KeptC R w g N, w' = k.world) (fun a' => wpL P l.toArray (fun w' => ∃ k : KeptC R w g N, w' = k.world) Q (tails fs l) a' w.drew) (heads fs l) a) : (Code.region id l.toArray true).wp P Q a w :=
  region_l fs _ hm hB hL ⟨⟨_, (Turns.refl _ _).drew, fun _ _ => rfl⟩, rfl⟩ h
def rdE (L : List (Nat × List UInt8)) (i : Int) : Int := if inR L i then (if 4096 ≤ L.length then 3 else 0) else 1
def rdL (L : List (Nat × List UInt8)) (i : Int) : List (Nat × List UInt8) := if inR L i then (if 4096 ≤ L.length then L else L ++ [L.getD i.toNat (0, [])]) else L
set_option maxRecDepth 100000 in
set_option maxHeartbeats 2000000 in
theorem rdouble_any (F : Nat → Prop) (b n : Nat) (L : List (Nat × List UInt8)) (i : Int) (w : World) (hN : RNet w F b n L) (hL : L.length ≤ 4096) :
    Calls Try.prog 18 #[.pointer (some ⟨b, 0, none⟩), .int .i64 i] w fun en w' => en = .returned (.int .i64 (rdE L i)) ∧ Turns F w w' ∧ RNet w' (fun k => F k ∨ w.heap.size ≤ k) b n (rdL L i) := by
  obtain ⟨i0, hi0, hz0, hz1, hz2⟩ := info_parts Try.info40
  obtain ⟨p, c, hN⟩ := hN
  obtain ⟨m, hm⟩ : ∃ m, m = L.length := ⟨_, rfl⟩
  have hr := hN.rw_
  rw [← hm] at hr
  have c1 := hr.cell (i := 1) rfl
  have HN := Calm.hid hN
  have HM := Calm.hid hm
  by_cases h : inR L i
  · obtain ⟨r, rfl⟩ : ∃ r : Nat, i = r := ⟨i.toNat, by have := h.1; omega⟩
    obtain ⟨x, hx⟩ := getElem?_of L (i := r) (by have := h.2; omega)
    have hget : L.getD (r : Int).toNat (0, []) = x := by simp [List.getD_eq_getElem?_getD, hx]
    have hrm : r < m := by have := h.2; omega
    by_cases hf : 4096 ≤ L.length
    · rw [rdE, rdL, if_pos h, if_pos h, if_pos hf, if_pos hf]
      have hmf : m = 4096 := by omega
      clear hN hm hr h hx hget hf
      go_enter Try.func18, Try.ntmps18
      go_wp2
      go_ret
      exact ⟨rfl, Turns.refl _ _, (HN.out.mono fun _ _ h => .inl h).net⟩
    · rw [rdE, rdL, if_pos h, if_pos h, if_neg hf, if_neg hf, hget]
      have hmf : m < 4096 := by omega
      obtain ⟨g, hg⟩ : ∃ g, p = some ⟨g, 0, none⟩ := by
        cases hp : p with
        | none => have := (hN.row.nil hp).1; omega
        | some ad => obtain ⟨g, rfl, _⟩ := hN.row.at_ ad hp; exact ⟨g, rfl⟩
      subst hg
      have hb := hr.lt
      obtain ⟨R, hR⟩ : ∃ R : Nat → Prop, R = rowBlk (some ⟨g, 0, none⟩) := ⟨_, rfl⟩
      have hbR : ¬ R b := by subst hR; exact fun h => (HN.out.row.blk h).2.1 rfl
      obtain ⟨g', e, _, _, hgl, h5, _⟩ := HN.out.row.at_ _ rfl
      cases e
      obtain ⟨l0, l1⟩ := rcells_at L hx
      have k1 : ∀ q : KeptC R w g (m * 2), q.world.cell? ⟨b, 1, none⟩ = some (.slice (some ⟨g, 0, none⟩) m c) := fun q => (q.turns.cell hb hbR).trans c1
      have k2 : ∀ q : KeptC R w g (m * 2), q.world.cell? ⟨g, r * 2, none⟩ = some (.int .u8 x.1) := fun q => (q.keep _ (by omega)).trans (h5 _ _ l0)
      have k3 : ∀ q : KeptC R w g (m * 2), q.world.cell? ⟨g, r * 2 + 1, none⟩ = some (.string ⟨x.2.toArray⟩) := fun q => (q.keep _ (by omega)).trans (h5 _ _ l1)
      have HX := Calm.hid hx
      have HR := Calm.hid hR
      have hmc : m ≤ c := by rw [hm]; exact hN.row.le
      clear hN hr h hx hget hf h5 l0 l1
      clear hm hR
      go_enter Try.func18, Try.ntmps18
      go_wp2_with fail
      refine region_lc R g (m * 2) [true, true, true, true, true, true, true, true, true, true, true, true, false, false, false, false, false] (by kernel_rfl) (by kernel_rfl) (by kernel_rfl) ?_
      simp only [heads, tails]
      repeat (go_big_quiet_step (fail))
      refine wpQuiet_nil ?_
      refine wpL_step ?_
      go_wp2
      obtain ⟨w3, hw3⟩ : ∃ w3, w3 = (w.alloc (.cells #[.int .u8 x.1, .string ⟨x.2.toArray⟩] 40)).drew := ⟨_, rfl⟩
      have ht3 : Turns (fun _ => False) w w3 := by rw [hw3]; exact ((Turns.refl _ w).alloc _).drew
      have r3 : Rw w3 w.heap.size [.int .u8 x.1, .string ⟨x.2.toArray⟩] 40 := by rw [hw3]; exact (Rw.new w _ 40).drew
      have hkeep : ∀ j, j < m * 2 → ((w.alloc (.cells #[.int .u8 x.1, .string ⟨x.2.toArray⟩] 40)).drew).cell? ⟨g, j, none⟩ = w.cell? ⟨g, j, none⟩ := fun j _ => (((Turns.refl (fun _ => False) w).alloc _).drew).cell (HN.out.row.blk (rowBlk_some.2 rfl)).2.2 id
      refine ⟨⟨⟨_, ((Turns.refl _ w).alloc _).drew, hkeep⟩, rfl⟩, ?_⟩
      rw [← hw3]
      have HT3 := Calm.hid ht3
      have HR3 := Calm.hid r3
      have hlt3 := r3.lt
      clear ht3 r3 hkeep
      clear hw3
      have HRO := Calm.hid ((HN.out.row_of HM.out).turns (w' := w3) HT3.out (fun _ _ h => h))
      refine wpL_step ?_
      refine wpList_append_keep rfl (.tmp 26) (.tmp 34) 45 rfl 40 i0 _ 2 24 Try.underlying45 hi0 hz0 hz1 hz2 rfl (by decide) F (fun x => F x ∨ w.heap.size ≤ x) b m c (some ⟨g, 0, none⟩) (rcells L) rfl HRO.out ?_ ?_ ?_ ⟨w.heap.size, 0, none⟩ 1 1 [.int .u8 x.1, .string ⟨x.2.toArray⟩] rfl rfl ?_ ?_ ?_ ?_ ?_
      · exact fun k _ h => .inl h
      · have := HT3.out.size; exact fun k hk => .inr (by omega)
      · have := HT3.out.size; omega
      · intro j u hu; rw [add_plain, Nat.zero_add]; exact HR3.out.cell hu
      · exact one2 _ _ rfl rfl
      · simp only [maxLen]; omega
      · omega
      intro p4 c4 w4 hrow ht4 hp4 hk4
      have HROW := Calm.hid hrow
      have HT4 := Calm.hid ht4
      have HTR : Hid (Turns R w w4) := (HT3.out.mono (fun _ _ h => h.elim)).trans (by rw [HR.out]; exact HT4.out)
      have HKEEP : Hid (∀ j, j < m * 2 → w4.cell? ⟨g, j, none⟩ = w.cell? ⟨g, j, none⟩) := fun j hj => by
        have hl : j < (rcells L).length := by rw [rcells_length, ← HM.out]; exact hj
        obtain ⟨g', e, _, _, _, h5, _⟩ := HN.out.row.at_ _ rfl
        cases e
        rw [hk4 g j _ rfl (List.getElem?_eq_getElem hl), h5 j _ (List.getElem?_eq_getElem hl)]
      clear hrow ht4 hp4 hk4
      have HRW4 : Hid (Rw w4 b [.int .i64 n, .slice (some ⟨g, 0, none⟩) m c] 49) := (by have := HN.out.rw_; rw [← HM.out] at this; exact this.turns HTR.out hbR)
      refine wpList_nil ⟨rfl, rfl, .inr ⟨⟨w4, HTR.out, HKEEP.out⟩, rfl⟩, ?_⟩
      refine wpL_step ?_
      go_wp2
      refine ⟨⟨⟨w4, HTR.out, HKEEP.out⟩, rfl⟩, ?_⟩
      refine wpL_step ?_
      go_wp2
      refine ⟨⟨⟨w4, HTR.out, HKEEP.out⟩, rfl⟩, ?_⟩
      refine wpL_step ?_
      have d1 := HRW4.out.cell (i := 1) rfl
      have f1 := HRW4.out.free 1
      go_wp2
      refine wpL_nil ?_
      go_wp2
      go_ret
      have hlt := HRW4.out.lt
      refine ⟨rfl, ?_, ?_⟩
      · refine (HTR.out.mono fun x _ h => ?_).setCell (fun _ => HN.out.own) _
        rw [HR.out] at h
        exact (HN.out.row.blk h).1
      · refine (RNetP.store HRW4.out (.inl HN.out.own) (by rw [HM.out]; simp) ?_).net
        rw [rcells_append]
        exact HROW.out
  · rw [rdE, rdL, if_neg h, if_neg h]
    have hi : i < 0 ∨ (m : Int) ≤ i := by unfold inR at h; omega
    clear hN hm hr h
    by_cases h0 : i < 0
    all_goals
      go_enter Try.func18, Try.ntmps18
      go_wp2
      go_ret
      exact ⟨rfl, Turns.refl _ _, (HN.out.mono fun _ _ h => .inl h).net⟩
set_option maxRecDepth 100000 in
set_option maxHeartbeats 2000000 in
theorem rhold_any (F : Nat → Prop) (b n : Nat) (L : List (Nat × List UInt8)) (i : Int) (w : World) (hN : RNet w F b n L) (hL : L.length ≤ 4096) :
    Calls Try.prog 20 #[.pointer (some ⟨b, 0, none⟩), .int .i64 i] w fun en w' => en = .returned (.int .i64 (takeE L i)) ∧ Turns F w w' ∧ RNet w' (fun k => F k ∨ w.heap.size ≤ k) b n (holdL L i) := by
  obtain ⟨i0, hi0, hz0, hz1, hz2⟩ := info_parts Try.info40
  by_cases h : inR L i
  · obtain ⟨j, rfl⟩ : ∃ j : Nat, i = j := ⟨i.toNat, by have := h.1; omega⟩
    obtain ⟨x, hx⟩ := getElem?_of L (i := j) (by have := h.2; omega)
    have hget : L.getD (j : Int).toNat (0, []) = x := by simp [List.getD_eq_getElem?_getD, hx]
    have htk := rtake_in (fun k => F k ∧ k < w.heap.size) b n L j x w (hN.mono fun k hk h => ⟨h, hk⟩) hL hx
    rw [takeE, holdL, if_pos h, if_pos h, hget]
    have HTK := Calm.hid htk
    have hjl : (L.eraseIdx j).length ≤ 4095 := by rw [List.length_eraseIdx]; have := h.2; split <;> omega
    clear htk hN hL hx h hget
    go_enter Try.func20, Try.ntmps20
    go_wp2_with fail
    refine HTK.out.mono ?_
    rintro e w2 ⟨rfl, ht, p, c, hn⟩
    unfold rtup
    obtain ⟨G, hG⟩ : ∃ G : Nat → Prop, G = fun k => (F k ∧ k < w.heap.size) ∨ w.heap.size ≤ k ∧ k < w2.heap.size := ⟨_, rfl⟩
    obtain ⟨m, hm⟩ : ∃ m, m = (L.eraseIdx j).length := ⟨_, rfl⟩
    obtain ⟨R, hR⟩ : ∃ R : Nat → Prop, R = rowBlk p := ⟨_, rfl⟩
    have hnG : RNetP w2 G b n (L.eraseIdx j) p c := by rw [hG]; exact hn.mono fun k hk h => h.elim .inl fun h => .inr ⟨h, hk⟩
    obtain ⟨w3, hw3⟩ : ∃ w3, w3 = w2.alloc (.cells #[.int .u8 x.1, .string ⟨x.2.toArray⟩] 40) := ⟨_, rfl⟩
    have ht3 : Turns (fun _ => False) w2 w3 := by rw [hw3]; exact (Turns.refl _ w2).alloc _
    have ro : Rw w3 w2.heap.size [.int .u8 x.1, .string ⟨x.2.toArray⟩] 40 := by rw [hw3]; exact Rw.new w2 _ 40
    have hs3 : w3.heap.size = w2.heap.size + 1 := by rw [hw3]; simp
    have hn3 := hnG.turns ht3 (fun _ _ h => h)
    have hb3 := hn3.lt
    have hbR : ¬ R b := by rw [hR]; exact fun h => (hn3.row.blk h).2.1 rfl
    have hoR : ¬ R w2.heap.size := by rw [hR]; intro h; have := (hnG.row.blk h).2.2; omega
    have hm4 : m ≤ 4095 := by omega
    have k1 : ∀ q : KeptR R w3, q.world.cell? ⟨b, 1, none⟩ = some (.slice p m c) := fun q => (q.turns.cell hb3 hbR).trans (by have := hn3.rw_.cell (i := 1) rfl; rwa [← hm] at this)
    have k2 : ∀ z : KeptR R w3, z.world.cell? ⟨w2.heap.size, 0, none⟩ = some (.int .u8 x.1) := fun z => (z.turns.cell ro.lt hoR).trans (ro.cell (i := 0) rfl)
    have k3 : ∀ z : KeptR R w3, z.world.cell? ⟨w2.heap.size, 1, none⟩ = some (.string ⟨x.2.toArray⟩) := fun z => (z.turns.cell ro.lt hoR).trans (ro.cell (i := 1) rfl)
    have HT := Calm.hid ht
    have HN3 := Calm.hid hn3
    have HG := Calm.hid hG
    have HM := Calm.hid hm
    have HR := Calm.hid hR
    have HT3 := Calm.hid ht3
    have HW3 := Calm.hid hw3
    have HJL := Calm.hid hjl
    clear ht hn hnG ht3 ro hn3 hjl
    clear hG
    clear hm
    clear hR
    clear hw3
    go_wp2_with fail
    rw [← HW3.out]
    refine region_lr R [true, true, true, true, true, true, false, false, false, false, false] (by kernel_rfl) (by kernel_rfl) (by kernel_rfl) ?_
    simp only [heads, tails]
    repeat (go_big_quiet_step (fail))
    refine wpQuiet_nil ?_
    refine wpL_step ?_
    go_wp2
    obtain ⟨w5, hw5⟩ : ∃ w5, w5 = (w3.alloc (.cells #[.int .u8 x.1, .string ⟨x.2.toArray⟩] 40)).drew := ⟨_, rfl⟩
    have ht5 : Turns (fun _ => False) w3 w5 := by rw [hw5]; exact ((Turns.refl _ w3).alloc _).drew
    have r5 : Rw w5 (w2.heap.size + 1) [.int .u8 x.1, .string ⟨x.2.toArray⟩] 40 := by rw [hw5, ← hs3]; exact (Rw.new w3 _ 40).drew
    refine ⟨⟨⟨_, ((Turns.refl _ w3).alloc _).drew⟩, rfl⟩, ?_⟩
    rw [← hw5]
    have HT5 := Calm.hid ht5
    have HR5 := Calm.hid r5
    have hlt5 := r5.lt
    clear ht5 r5
    clear hw5
    refine wpL_step ?_
    refine wpList_append_keep rfl (.tmp 19) (.tmp 21) 45 rfl 40 i0 _ 2 24 Try.underlying45 hi0 hz0 hz1 hz2 rfl (by decide) G (fun k => F k ∨ w.heap.size ≤ k) b m c p (rcells (L.eraseIdx j)) rfl ?_ ?_ ?_ ?_ ⟨w2.heap.size + 1, 0, none⟩ 1 1 [.int .u8 x.1, .string ⟨x.2.toArray⟩] rfl rfl ?_ ?_ ?_ ?_ ?_
    · exact HN3.out.row_of HM.out |>.turns HT5.out (fun _ _ h => h)
    · rw [HG.out]; exact fun k _ h => h.elim (fun h => .inl h.1) (fun h => .inr h.1)
    · have h1 := HT.out.size; have h2 := HT3.out.size; have h3 := HT5.out.size; exact fun k hk => .inr (by omega)
    · have h3 := HT5.out.size; omega
    · intro j u hu; rw [add_plain, Nat.zero_add]; exact HR5.out.cell hu
    · exact one2 _ _ rfl rfl
    · simp only [maxLen]; omega
    · omega
    intro p4 c4 w4 hrow ht4 hp4 _
    have HROW := Calm.hid hrow
    have HT4 := Calm.hid ht4
    clear hrow ht4 hp4
    have HTR : Hid (Turns R w3 w4) := (HT5.out.mono (fun _ _ h => h.elim)).trans (by rw [HR.out]; exact HT4.out)
    have HRW4 : Hid (Rw w4 b [.int .i64 n, .slice p m c] 49) := (by have := HN3.out.rw_; rw [← HM.out] at this; exact this.turns HTR.out hbR)
    refine wpList_nil ⟨rfl, rfl, .inr ⟨⟨w4, HTR.out⟩, rfl⟩, ?_⟩
    refine wpL_step ?_
    go_wp2
    refine ⟨⟨⟨w4, HTR.out⟩, rfl⟩, ?_⟩
    refine wpL_step ?_
    go_wp2
    refine ⟨⟨⟨w4, HTR.out⟩, rfl⟩, ?_⟩
    refine wpL_step ?_
    have d1 := HRW4.out.cell (i := 1) rfl
    have f1 := HRW4.out.free 1
    go_wp2
    refine wpL_nil ?_
    go_wp2
    go_ret
    have hlt := HRW4.out.lt
    have hgf : ∀ k, k < w.heap.size → G k → F k := by rw [HG.out]; rintro k hk (h | h); exact h.1; omega
    have hm' : ∀ k, G k → F k ∨ w.heap.size ≤ k := by rw [HG.out]; exact fun k h => h.elim (fun h => .inl h.1) (fun h => .inr h.1)
    have h1 := HT.out.size
    have hFb : F b ∨ w.heap.size ≤ b := hm' b HN3.out.own
    refine ⟨rfl, ?_, ?_⟩
    · refine Turns.setCell ?_ (fun h => hFb.elim id (fun h' => by simp at h; omega)) _
      have h2 : Turns (fun k => k < w.heap.size → F k) w w2 := HT.out.mono fun k _ h _ => h.1
      have h3 : Turns (fun k => k < w.heap.size → F k) w w3 := h2.trans (HT3.out.mono fun _ _ h => h.elim)
      refine (h3.trans (HTR.out.mono fun k _ h hk => ?_)).mono fun k hk h => h hk
      rw [HR.out] at h
      exact hgf k hk (HN3.out.row.blk h).1
    · refine (RNetP.store HRW4.out hFb (by rw [HM.out]; simp) ?_).net
      rw [rcells_append]
      exact HROW.out
  · have htk := rtake_out F b n L i w hN (by unfold inR at h; omega)
    have HTK := Calm.hid htk
    have HN := Calm.hid hN
    have HH := Calm.hid h
    clear htk hN hL h
    go_enter Try.func20, Try.ntmps20
    go_wp2_with fail
    refine HTK.out.mono ?_
    rintro e w2 ⟨rfl, hb⟩
    have HB := Calm.hid hb
    clear hb
    unfold rtup
    go_wp2
    go_ret
    refine ⟨?_, ?_, ?_⟩
    · rw [takeE, if_neg HH.out]; rfl
    · exact ((Turns.of_below HB.out).alloc _)
    · rw [holdL, if_neg HH.out]
      exact (HN.out.turns ((Turns.of_below (R := fun _ => False) HB.out).alloc _) (fun _ _ h => h)).mono fun k _ h => .inl h
end Go.Proofs.Ytfhjpnhchggljaa
