/-
  With, and Take.
-/
import Derived.Test.YtfhjpnhchggljaaTake1
namespace Go.Proofs.Ytfhjpnhchggljaa
open Go.RowKit Go.Sha Go.Calm
attribute [local go_sem] Oper.semAt_some
set_option maxRecDepth 100000 in
set_option maxHeartbeats 1000000 in
theorem with_out (b n m c : Nat) (p : Option Addr) (i : Int) (f : Value) (w : World) (hr : Rw w b [.int .i64 n, .slice p m c] 59) (hi : i < 0 ∨ (m : Int) ≤ i) (h64 : -9223372036854775808 ≤ i ∧ i < 9223372036854775808) :
    Calls Try.prog 26 #[.pointer (some ⟨b, 0, none⟩), .int .i64 i, f] w fun en w' => en = .returned (.int .i64 1) ∧ w' = w := by
  have c1 := hr.cell (i := 1) rfl
  clear hr
  by_cases h : i < 0
  all_goals
    go_enter Try.func26, Try.ntmps26
    go_wp2
    go_ret
    exact ⟨rfl, rfl⟩
set_option maxRecDepth 100000 in
set_option maxHeartbeats 1000000 in
theorem with_take (F : Nat → Prop) (b n c : Nat) (p : Option Addr) (cs : List Value) (L : List (Nat × List UInt8)) (o bx bi : Nat) (vs : List Value) (t1 t2 : TypeId) (i : Nat) (x : Nat × List UInt8) (w : World) (hN : NetP w F b n L p c cs)
    (hL : L.length ≤ 4096) (hx : L[i]? = some x) (ho : Rw w o vs 36) (hvs : vs.length = 2) (hbx : Rw w bx [.pointer (some ⟨b, 0, none⟩)] t1) (hbi : Rw w bi [.int .i64 i] t2) (fo : ¬ F o) (fx : ¬ F bx) (fi : ¬ F bi) (ox : bx ≠ o) (oi : bi ≠ o) :
    Calls Try.prog 26 #[.pointer (some ⟨b, 0, none⟩), .int .i64 i, .func (Fn.func 27) #[] #[.pointer (some ⟨o, 0, none⟩), .pointer (some ⟨bx, 0, none⟩), .pointer (some ⟨bi, 0, none⟩)]] w fun en w' => en = .returned (.int .i64 0) ∧ Turns (fun k => F k ∨ k = o) w w' ∧ 
      ∃ q cq, Rw w' o [.int .u8 x.1, .slice q x.2.length cq] 36 ∧ ∃ p' c' cs', NetP w' (fun k => F k ∨ w.heap.size ≤ k) b n (L.eraseIdx i) p' c' cs' ∧ 
        LV w' (fun k => (F k ∨ w.heap.size ≤ k) ∧ k ≠ b ∧ ¬ rowBlk p' k) [.int .u8 x.1, .slice q x.2.length cq] [x] := by
  have him : i < L.length := (List.getElem?_eq_some_iff.1 hx).1
  obtain ⟨g, hg⟩ : ∃ g, p = some ⟨g, 0, none⟩ := by
    cases hp : p with
    | none => have := (hN.row.nil hp).1; omega
    | some ad => obtain ⟨g, rfl, _⟩ := hN.row.at_ ad hp; exact ⟨g, rfl⟩
  obtain ⟨q, cq, l0, l1, hlv⟩ := hN.lv.at hx
  obtain ⟨m, hm⟩ : ∃ m, m = L.length := ⟨_, rfl⟩
  have hlet := take1_any F b n c p cs L o bx bi vs t1 t2 i x q cq w hN hL hx ho hvs hbx hbi fo fx fi ox oi
  have hc1 := hN.rw_
  rw [← hm] at hc1 him
  have c1 := hc1.cell (i := 1) rfl
  have d0 : w.cell? ⟨g, i * 2, none⟩ = some (.int .u8 x.1) := by
    obtain ⟨g', e, _, _, _, h5, _⟩ := hN.row.at_ _ hg; cases e; exact h5 _ _ l0
  have d1 : w.cell? ⟨g, i * 2 + 1, none⟩ = some (.slice q x.2.length cq) := by
    obtain ⟨g', e, _, _, _, h5, _⟩ := hN.row.at_ _ hg; cases e; exact h5 _ _ l1
  have HN := Calm.hid hN
  have HLET := Calm.hid hlet
  have HLV := Calm.hid hlv
  clear hN hlet hlv hL ho hvs hbx hbi hx l0 l1
  clear hm hc1
  subst hg
  go_enter Try.func26, Try.ntmps26
  go_wp2_with fail
  refine HLET.out.mono ?_
  rintro e w2 ⟨rfl, ht, hro, p', c', cs', hn', hp'⟩
  have HT := Calm.hid ht
  have HRO := Calm.hid hro
  have HN' := Calm.hid hn'
  have HP' := Calm.hid hp'
  clear ht hro hn' hp'
  go_wp2
  go_ret
  refine ⟨rfl, HT.out.mono ?_, q, cq, HRO.out, p', c', cs', HN'.out, ?_⟩
  · rintro k _ (rfl | h | h)
    · exact .inl HN.out.own
    · exact .inl (HN.out.row.blk h).1
    · exact .inr h
  · have h4 : LV w (fun k => (F k ∨ w.heap.size ≤ k) ∧ k ≠ b ∧ ¬ rowBlk (some ⟨g, 0, none⟩) k ∧ k ≠ o ∧ ¬ rowBlk p' k) [.int .u8 x.1, .slice q x.2.length cq] [x] := HLV.out.mono fun k hk h => ⟨.inl h.1, h.2.1, h.2.2, fun e => fo (e ▸ h.1), fun hr => h.2.2 (HP'.out k hk hr)⟩
    have h5 := h4.turns HT.out (fun k h e => e.elim h.2.1 (fun e => e.elim h.2.2.1 h.2.2.2.1))
    exact h5.mono fun k _ h => ⟨h.1, h.2.1, h.2.2.2.2⟩
set_option maxRecDepth 100000 in
set_option maxHeartbeats 1000000 in
theorem take_in (F : Nat → Prop) (b n : Nat) (L : List (Nat × List UInt8)) (i : Nat) (x : Nat × List UInt8) (w : World) (hN : Net w F b n L) (hL : L.length ≤ 4096) (hx : L[i]? = some x) :
    Calls Try.prog 13 #[.pointer (some ⟨b, 0, none⟩), .int .i64 i] w fun en w' => ∃ q cq, en = .returned (.tuple #[.agg #[.int .u8 x.1, .slice q x.2.length cq], .int .i64 0]) ∧ Turns F w w' ∧
      ∃ p' c' cs', NetP w' (fun k => F k ∨ w.heap.size ≤ k) b n (L.eraseIdx i) p' c' cs' ∧ LV w' (fun k => (F k ∨ w.heap.size ≤ k) ∧ k ≠ b ∧ ¬ rowBlk p' k) [.int .u8 x.1, .slice q x.2.length cq] [x] := by
  obtain ⟨p, c, cs, hN⟩ := hN
  obtain ⟨G, hG⟩ : ∃ G : Nat → Prop, G = fun k => F k ∧ k < w.heap.size := ⟨_, rfl⟩
  have hNG : NetP w G b n L p c cs := by rw [hG]; exact hN.mono fun k hk h => ⟨h, hk⟩
  obtain ⟨wa, hwa⟩ : ∃ wa, wa = w.alloc (.cells #[.pointer (some ⟨b, 0, none⟩)] 25) := ⟨_, rfl⟩
  have ra : Rw wa w.heap.size [.pointer (some ⟨b, 0, none⟩)] 25 := by rw [hwa]; exact Rw.new w _ 25
  have hsa : wa.heap.size = w.heap.size + 1 := by rw [hwa]; simp
  obtain ⟨wb, hwb⟩ : ∃ wb, wb = wa.alloc (.cells #[.int .i64 i] 3) := ⟨_, rfl⟩
  have rb : Rw wb (w.heap.size + 1) [.int .i64 i] 3 := by rw [hwb, ← hsa]; exact Rw.new wa _ 3
  have hsb : wb.heap.size = w.heap.size + 1 + 1 := by rw [hwb]; simp [hsa]
  obtain ⟨wc, hwc⟩ : ∃ wc, wc = wb.alloc (.cells #[.int .u8 0, .slice none 0 0] 36) := ⟨_, rfl⟩
  have rc : Rw wc (w.heap.size + 1 + 1) [.int .u8 0, .slice none 0 0] 36 := by rw [hwc, ← hsb]; exact Rw.new wb _ 36
  have hsc : wc.heap.size = w.heap.size + 1 + 1 + 1 := by rw [hwc]; simp [hsb]
  obtain ⟨wd, hwd⟩ : ∃ wd, wd = wc.alloc (.cells #[.int .u8 0, .slice none 0 0] 36) := ⟨_, rfl⟩
  have rd : Rw wd (w.heap.size + 1 + 1 + 1) [.int .u8 0, .slice none 0 0] 36 := by rw [hwd, ← hsc]; exact Rw.new wc _ 36
  have ra' : Rw wd w.heap.size [.pointer (some ⟨b, 0, none⟩)] 25 := by rw [hwd, hwc, hwb]; exact ((ra.alloc _).alloc _).alloc _
  have rb' : Rw wd (w.heap.size + 1) [.int .i64 i] 3 := by rw [hwd, hwc]; exact (rb.alloc _).alloc _
  have rc' : Rw wd (w.heap.size + 1 + 1) [.int .u8 0, .slice none 0 0] 36 := by rw [hwd]; exact rc.alloc _
  have hsd : wd.heap.size = w.heap.size + 1 + 1 + 1 + 1 := by rw [hwd]; simp [hsc]
  have htd : Turns (fun _ => False) w wd := by rw [hwd, hwc, hwb, hwa]; exact ((((Turns.refl _ w).alloc _).alloc _).alloc _).alloc _
  have hwith := with_take G b n c p cs L (w.heap.size + 1 + 1 + 1) w.heap.size (w.heap.size + 1) _ 25 3 i x wd (hNG.turns htd (fun _ _ h => h)) hL hx rd rfl ra' rb' (by rw [hG]; exact fun h => by omega) (by rw [hG]; exact fun h => by omega) (by rw [hG]; exact fun h => by omega) (by omega) (by omega)
  have hw : wd = (((w.alloc (.cells #[.pointer (some ⟨b, 0, none⟩)] 25)).alloc (.cells #[.int .i64 i] 3)).alloc (.cells #[.int .u8 0, .slice none 0 0] 36)).alloc (.cells #[.int .u8 0, .slice none 0 0] 36) := by rw [hwd, hwc, hwb, hwa]
  have HW := Calm.hid hw
  have HWITH := Calm.hid hwith
  have H4 := Calm.hid rc'
  have HTD := Calm.hid htd
  have HG := Calm.hid hG
  clear hw hwith rc' htd hwd hwc hwb hwa ra rb rc rd ra' rb' hsa hsb hsc hNG hN hx hL
  clear hG
  go_enter Try.func13, Try.ntmps13
  go_wp2_with fail
  rw [← HW.out]
  refine HWITH.out.mono ?_
  rintro e w2 ⟨rfl, ht, q, cq, hro, p', c', cs', hn', hlv⟩
  have HT := Calm.hid ht
  have HRO := Calm.hid hro
  have HN' := Calm.hid hn'
  have HLV' := Calm.hid hlv
  have c0 := hro.cell (i := 0) rfl
  have c1 := hro.cell (i := 1) rfl
  clear ht hro hn' hlv
  have hs := HTD.out.size
  have H4' : Hid (Rw w2 (w.heap.size + 1 + 1) [.int .u8 0, .slice none 0 0] 36) := H4.out.turns HT.out (by rw [HG.out]; rintro (h | h) <;> omega)
  go_wp2_with (refine wpList_store_rw rfl 36 (.tmp 4) (.tmp 12) rfl (w.heap.size + 1 + 1) [.int .u8 x.1, .slice q x.2.length cq] rfl rfl 36 _ H4'.out (by kernel_rfl) rfl (one2 _ _ rfl rfl) ?_; intro w9 hr9 ht9; have HR9 := Calm.hid hr9; have HT9 := Calm.hid ht9; clear hr9 ht9)
  refine bodyPost_ret (ret_letter rfl rfl HR9.out rfl) rfl ⟨q, cq, rfl, ?_, ?_⟩
  · have h1 : Turns (fun k => k < w.heap.size → F k) w w2 := (HTD.out.mono (fun _ _ h => h.elim)).trans (HT.out.mono fun k _ h hk => by rw [HG.out] at h; rcases h with h | h; exact h.1; omega)
    exact (h1.trans (HT9.out.mono fun k _ h hk => by omega)).mono fun k hk h => h hk
  · have h9 : ∀ x, (G x ∨ wd.heap.size ≤ x) → ¬ x = w.heap.size + 1 + 1 := by rw [HG.out]; rintro k (h | h) <;> omega
    have hm : ∀ k, (G k ∨ wd.heap.size ≤ k) → F k ∨ w.heap.size ≤ k := by rw [HG.out]; rintro k (h | h); exact .inl h.1; exact .inr (by omega)
    refine ⟨p', c', cs', (HN'.out.turns HT9.out h9).mono fun k _ h => hm k h, (HLV'.out.turns HT9.out fun k h => h9 k h.1).mono fun k _ h => ⟨hm k h.1, h.2⟩⟩
set_option maxRecDepth 100000 in
set_option maxHeartbeats 1000000 in
theorem take_out (F : Nat → Prop) (b n : Nat) (L : List (Nat × List UInt8)) (i : Int) (w : World) (hN : Net w F b n L) (hi : i < 0 ∨ (L.length : Int) ≤ i) (h64 : -9223372036854775808 ≤ i ∧ i < 9223372036854775808) :
    Calls Try.prog 13 #[.pointer (some ⟨b, 0, none⟩), .int .i64 i] w fun en w' => en = .returned (noLetter 1) ∧ Below w.heap.size w w' := by
  obtain ⟨p, c, cs, hN⟩ := hN
  obtain ⟨wa, hwa⟩ : ∃ wa, wa = (w.alloc (.cells #[.pointer (some ⟨b, 0, none⟩)] 25)).alloc (.cells #[.int .i64 i] 3) := ⟨_, rfl⟩
  have hba : Below w.heap.size w wa := by rw [hwa]; exact ((Below.refl _ _).alloc (Nat.le_refl _) _).alloc (by simp) _
  have hsa : wa.heap.size = w.heap.size + 1 + 1 := by rw [hwa]; simp
  obtain ⟨wb, hwb⟩ : ∃ wb, wb = wa.alloc (.cells #[.int .u8 0, .slice none 0 0] 36) := ⟨_, rfl⟩
  have hsb : wb.heap.size = w.heap.size + 1 + 1 + 1 := by rw [hwb]; simp [hsa]
  have hr4 : Rw wb (w.heap.size + 1 + 1) [.int .u8 0, .slice none 0 0] 36 := by rw [hwb, ← hsa]; exact Rw.new wa _ 36
  have hbb : Below w.heap.size w wb := by rw [hwb]; exact hba.alloc hba.size _
  obtain ⟨wc, hwc⟩ : ∃ wc, wc = wb.alloc (.cells #[.int .u8 0, .slice none 0 0] 36) := ⟨_, rfl⟩
  have hr6 : Rw wc (w.heap.size + 1 + 1 + 1) [.int .u8 0, .slice none 0 0] 36 := by rw [hwc, ← hsb]; exact Rw.new wb _ 36
  have hr4c : Rw wc (w.heap.size + 1 + 1) [.int .u8 0, .slice none 0 0] 36 := by rw [hwc]; exact hr4.alloc _
  have hbc : Below w.heap.size w wc := by rw [hwc]; exact hbb.alloc hbb.size _
  have hw : wc = (((w.alloc (.cells #[.pointer (some ⟨b, 0, none⟩)] 25)).alloc (.cells #[.int .i64 i] 3)).alloc (.cells #[.int .u8 0, .slice none 0 0] 36)).alloc (.cells #[.int .u8 0, .slice none 0 0] 36) := by rw [hwc, hwb, hwa]
  have hwith := fun f => with_out b n L.length c p i f wc (hN.rw_.below hbc) hi h64
  have HWITH := Calm.hid hwith
  have HW := Calm.hid hw
  have H4 := Calm.hid hr4c
  have HB := Calm.hid hbc
  have c0 := hr6.cell (i := 0) rfl
  have c1 := hr6.cell (i := 1) rfl
  clear hw hwc hwb hwa hr4 hr6 hr4c hbc hbb hba hsa hsb hN hwith hi
  go_enter Try.func13, Try.ntmps13
  go_wp2_with fail
  rw [← HW.out]
  refine (HWITH.out _).mono ?_
  rintro e w2 ⟨rfl, rfl⟩
  go_wp2_with (refine wpList_store_rw rfl 36 (.tmp 4) (.tmp 12) rfl (w.heap.size + 1 + 1) [.int .u8 0, .slice none 0 0] rfl rfl 36 _ H4.out (by kernel_rfl) rfl (one2 _ _ rfl rfl) ?_; intro w9 hr9 ht9; have HR9 := Calm.hid hr9; have HB9 : Hid (Below w.heap.size w w9) := ((Turns.of_below HB.out).step ht9 (R := fun _ => False) (fun k hk e => by omega)).below (fun _ _ h => h); clear hr9 ht9)
  exact bodyPost_ret (ret_letter rfl rfl HR9.out rfl) rfl ⟨rfl, HB9.out⟩
end Go.Proofs.Ytfhjpnhchggljaa
