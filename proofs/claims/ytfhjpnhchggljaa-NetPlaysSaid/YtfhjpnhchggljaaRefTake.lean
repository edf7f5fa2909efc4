/-
  The document's Take.
-/
import Derived.Test.YtfhjpnhchggljaaRefSend
namespace Go.Proofs.Ytfhjpnhchggljaa
open Go.RowKit Go.Sha Go.Calm
attribute [local go_sem] Oper.semAt_some
set_option maxRecDepth 100000 in
set_option maxHeartbeats 2000000 in
theorem rtake_in (F : Nat → Prop) (b n : Nat) (L : List (Nat × List UInt8)) (r : Nat) (x : Nat × List UInt8) (w : World) (hN0 : RNet w F b n L) (hL : L.length ≤ 4096) (hx : L[r]? = some x) :
    Calls Try.prog 14 #[.pointer (some ⟨b, 0, none⟩), .int .i64 r] w fun en w' => en = .returned (rtup x 0) ∧ Turns F w w' ∧ RNet w' (fun k => F k ∨ w.heap.size ≤ k) b n (L.eraseIdx r) := by
  obtain ⟨i0, hi0, hz0, hz1, hz2⟩ := info_parts Try.info40
  obtain ⟨p, c, hN1⟩ := hN0
  obtain ⟨m, hm⟩ : ∃ m, m = L.length := ⟨_, rfl⟩
  have hrm : r < m := by rw [hm]; exact (List.getElem?_eq_some_iff.1 hx).1
  obtain ⟨g, hg⟩ : ∃ g, p = some ⟨g, 0, none⟩ := by
    cases hp : p with
    | none => have := (hN1.row.nil hp).1; omega
    | some ad => obtain ⟨g, rfl, _⟩ := hN1.row.at_ ad hp; exact ⟨g, rfl⟩
  subst hg
  obtain ⟨G, hG⟩ : ∃ G : Nat → Prop, G = fun k => F k ∧ k < w.heap.size := ⟨_, rfl⟩
  have hN : RNetP w G b n L (some ⟨g, 0, none⟩) c := hN1.mono fun k hk h => by rw [hG]; exact ⟨h, hk⟩
  obtain ⟨wa, hwa⟩ : ∃ wa, wa = w.alloc (.cells #[.int .u8 0, .string ⟨#[]⟩] 40) := ⟨_, rfl⟩
  have hsa : wa.heap.size = w.heap.size + 1 := by rw [hwa]; simp
  have ra : Rw wa w.heap.size [.int .u8 0, .string ⟨#[]⟩] 40 := by rw [hwa]; exact Rw.new w _ 40
  have hta : Turns (fun _ => False) w wa := by rw [hwa]; exact (Turns.refl _ w).alloc _
  obtain ⟨wb, hwb⟩ : ∃ wb, wb = wa.alloc (.cells #[.int .u8 x.1, .string ⟨x.2.toArray⟩] 40) := ⟨_, rfl⟩
  have hsb : wb.heap.size = w.heap.size + 1 + 1 := by rw [hwb]; simp [hsa]
  have rb : Rw wb (w.heap.size + 1) [.int .u8 x.1, .string ⟨x.2.toArray⟩] 40 := by rw [hwb, ← hsa]; exact Rw.new wa _ 40
  have ra' : Rw wb w.heap.size [.int .u8 0, .string ⟨#[]⟩] 40 := by rw [hwb]; exact ra.alloc _
  have htb : Turns (fun _ => False) w wb := by rw [hwb]; exact hta.alloc _
  have hNa := hN.turns hta (fun _ _ h => h)
  have hNb := hN.turns htb (fun _ _ h => h)
  have hra := hNa.rw_
  have hrb := hNb.rw_
  rw [← hm] at hra hrb
  have c1a := hra.cell (i := 1) rfl
  have c1b := hrb.cell (i := 1) rfl
  obtain ⟨l0, l1⟩ := rcells_at L hx
  obtain ⟨g', e, _, _, _, h5, _⟩ := hNa.row.at_ _ rfl
  cases e
  have d0 := h5 _ _ l0
  have d1 := h5 _ _ l1
  have hmc : m ≤ c := by rw [hm]; exact hN.row.le
  have hm4 : m ≤ 4096 := by omega
  have hlen : (rcells L).length = m * 2 := by rw [hm]; exact rcells_length L
  have HW : Hid (wb = (w.alloc (.cells #[.int .u8 0, .string ⟨#[]⟩] 40)).alloc (.cells #[.int .u8 x.1, .string ⟨x.2.toArray⟩] 40)) := by rw [Hid, hwb, hwa]
  have HX := Calm.hid hx
  have HM := Calm.hid hm
  have HNB := Calm.hid hNb
  have HRA := Calm.hid ra'
  have HRB := Calm.hid rb
  have HTB := Calm.hid htb
  have HG := Calm.hid hG
  have HLEN := Calm.hid hlen
  rw [hwa] at c1a d0 d1
  rw [hwb, hwa] at c1b
  clear hN1 hN hNa hNb hra hrb l0 l1 h5 hx hL ra ra' rb hta htb hlen
  clear hm hG hwb hwa
  have hgb : g ≠ b := (HNB.out.row.blk (rowBlk_some.2 rfl)).2.1
  obtain ⟨FB, hFB⟩ : ∃ FB : Nat → Prop, FB = fun k => wb.heap.size ≤ k := ⟨_, rfl⟩
  have HFB := Calm.hid hFB
  clear hFB
  have hbb := HNB.out.lt
  by_cases hc : c = r + 1
  case' pos => subst hc
  all_goals
    go_enter Try.func14, Try.ntmps14
    go_wp2_with (at_builtin; rw [← HW.out]; refine wpList_append_keep rfl (.const (.slice none 0 0)) (.tmp 33) 45 rfl 40 i0 _ 2 24 Try.underlying45 hi0 hz0 hz1 hz2 rfl (by decide) FB FB b 0 0 none [] rfl (RowOf.none _ _ _ _) ?_ ?_ ?_ _ _ _ (rcells (L.drop (r + 1))) rfl ?_ ?_ ?_ ?_ ?_ ?_)
    · exact fun k _ h => h
    · rw [HFB.out]; exact fun k h => h
    · exact hbb
    · rw [rcells_length, List.length_drop]; have := HM.out; omega
    · intro j u hu
      have hj := (List.getElem?_eq_some_iff.1 hu).1
      rw [rcells_length, List.length_drop] at hj
      rw [rcells_drop, List.getElem?_drop] at hu
      obtain ⟨g', e, _, _, _, h5, _⟩ := HNB.out.row.at_ _ rfl
      cases e
      have hm := HM.out
      first
        | (rw [add_plain]; exact h5 _ u hu)
        | (exfalso; omega)
    · exact rcells_one _
    · simp only [maxLen]; have := HM.out; omega
    · have := HM.out; omega
    intro p5 c5 w5 hrow ht5 _
    have hT5 : Turns (fun _ => False) wb w5 := ht5.mono fun _ _ h => (rowBlk_none h).elim
    have hN5 := HNB.out.turns hT5 (fun _ _ h => h)
    have HROW := Calm.hid hrow
    have HN5 := Calm.hid hN5
    have HRA5 := Calm.hid (HRA.out.turns hT5 id)
    have HRB5 := Calm.hid (HRB.out.turns hT5 id)
    have HT5 := Calm.hid (HTB.out.trans hT5)
    have hs5 := hT5.size
    have hr5 := hN5.rw_
    rw [← HM.out] at hr5
    have e1 := hr5.cell (i := 1) rfl
    have f1 := hr5.free 1
    have HR5 := Calm.hid hr5
    have HCUT := Calm.hid ((HN5.out.row_of HM.out).cut (k := r) (by omega))
    have hbw : b < w.heap.size := by have := HN5.out.own; rw [HG.out] at this; exact this.2
    clear hrow ht5 hT5 hN5 hr5 c1a c1b d0 d1
    have hbn : w.heap.size + 1 ≠ b := by omega
    have hbn2 : w.heap.size ≠ b := by omega
    have hFb : Hid (F b) := by have := HN5.out.own; rw [HG.out] at this; exact this.1
    have hgs : Hid (∀ k, (G k ∨ w.heap.size + 1 + 1 ≤ k) → k ≠ w.heap.size) := by rw [HG.out]; rintro k (h | h) e <;> omega
    have hgF : Hid (∀ k, (G k ∨ w.heap.size + 1 + 1 ≤ k) → F k ∨ w.heap.size ≤ k) := by rw [HG.out]; rintro k (h | h); exact .inl h.1; exact .inr (by omega)
    have hsw5 : w.heap.size + 1 + 1 ≤ w5.heap.size := by omega
    cases hp5 : p5 with
    | none =>
      obtain ⟨hk0, hc0⟩ := HROW.out.nil hp5
      have hr0 : rcells (L.drop (r + 1)) = [] := List.eq_nil_of_length_eq_zero (by have := HROW.out.len; omega)
      have HR0 := Calm.hid hr0
      subst hp5
      subst hc0
      clear hr0
      try simp only [hk0]
      go_wp2_with (first | (at_builtin; refine wpList_append_row_none rfl (.tmp 41) (.tmp 42) 45 rfl 40 i0 Try.underlying45 hi0 G b 2 r _ (some ⟨g, 0, none⟩) ((rcells L).take (r * 2)) rfl HCUT.out rfl ?_) | (refine wpList_load_rw rfl 40 (.tmp 6) rfl (w.heap.size + 1) rfl 40 _ _ (HRB5.out.set_other hbn _) Try.underlying40 rfl (by kernel_rfl) ?_; refine wpList_store_rw rfl 40 (.tmp 4) (.tmp 46) rfl w.heap.size [.int .u8 x.1, .string ⟨x.2.toArray⟩] rfl rfl 40 _ (HRA5.out.set_other hbn2 _) (by kernel_rfl) rfl (one2 _ _ rfl rfl) ?_; intro w9 hr9 ht9; have HR9 := Calm.hid hr9; have HT9 := Calm.hid ht9; clear hr9 ht9))
      refine bodyPost_ret (ret_rletter rfl rfl HR9.out rfl) rfl ⟨rfl, ?_, ?_⟩
      · have h1 : Turns F w w5 := HT5.out.mono fun _ _ h => h.elim
        exact (h1.setCell (a := ⟨b, 1, none⟩) (fun _ => hFb.out) _).step HT9.out (fun k hk e => by omega)
      · have hst := RNetP.store (F := fun k => G k ∨ w.heap.size + 1 + 1 ≤ k) (L := L.eraseIdx r) HR5.out (.inl HN5.out.own) (m := r) (by rw [List.length_eraseIdx, if_pos (by have := HM.out; omega)]; have := HM.out; omega) (by
          rw [List.eraseIdx_eq_take_drop_succ, rcells_append, HR0.out, List.append_nil, rcells_take]
          exact HCUT.out.mono fun _ _ h => .inl h)
        exact ((hst.turns HT9.out (fun k hk e => hgs.out k hk e)).mono fun k _ hk => hgF.out k hk).net
    | some ad5 =>
      obtain ⟨g5, rfl, hg5, _, hlt5, hc5, _⟩ := HROW.out.at_ ad5 hp5
      rw [HFB.out] at hg5
      have HC5 := Calm.hid hc5
      subst hp5
      clear hc5
      go_wp2_with (at_builtin; refine wpList_append_keep rfl (.tmp 41) (.tmp 42) 45 rfl 40 i0 _ 2 24 Try.underlying45 hi0 hz0 hz1 hz2 rfl (by decide) G (fun k => G k ∨ w.heap.size + 1 + 1 ≤ k) b r _ (some ⟨g, 0, none⟩) ((rcells L).take (r * 2)) rfl HCUT.out ?_ ?_ ?_ ⟨g5, 0, none⟩ _ _ (rcells (L.drop (r + 1))) rfl ?_ ?_ ?_ ?_ ?_ ?_)
      · exact fun k _ h => .inl h
      · exact fun k hk => .inr (by omega)
      · exact HN5.out.lt
      · rw [rcells_length, List.length_drop]; have := HM.out; omega
      · intro j u hu; rw [add_plain, Nat.zero_add]; exact HC5.out j u hu
      · exact rcells_one _
      · simp only [maxLen]; have := HM.out; omega
      · have := HM.out; omega
      intro p6 c6 w6 hrow6 ht6 _ _
      have HROW6 := Calm.hid hrow6
      have hgG := (HNB.out.row.blk (rowBlk_some.2 rfl)).1
      rw [HG.out] at hgG
      have HR6 := Calm.hid (HR5.out.turns ht6 (fun h => by rw [rowBlk_some] at h; exact hgb h.symm))
      have HRA6 := Calm.hid (HRA5.out.turns ht6 (fun h => by rw [rowBlk_some] at h; omega))
      have HRB6 := Calm.hid (HRB5.out.turns ht6 (fun h => by rw [rowBlk_some] at h; omega))
      have HT6 : Hid (Turns F w w6) := (HT5.out.mono fun _ _ h => h.elim).trans (ht6.mono fun k _ h => by rw [rowBlk_some] at h; subst h; exact hgG.1)
      have d1 := HR6.out.cell (i := 1) rfl
      have f2 := HR6.out.free 1
      clear hrow6 ht6 hgG e1 f1
      go_wp2_with (refine wpList_load_rw rfl 40 (.tmp 6) rfl (w.heap.size + 1) rfl 40 _ _ (HRB6.out.set_other hbn _) Try.underlying40 rfl (by kernel_rfl) ?_; refine wpList_store_rw rfl 40 (.tmp 4) (.tmp 46) rfl w.heap.size [.int .u8 x.1, .string ⟨x.2.toArray⟩] rfl rfl 40 _ (HRA6.out.set_other hbn2 _) (by kernel_rfl) rfl (one2 _ _ rfl rfl) ?_; intro w9 hr9 ht9; have HR9 := Calm.hid hr9; have HT9 := Calm.hid ht9; clear hr9 ht9)
      refine bodyPost_ret (ret_rletter rfl rfl HR9.out rfl) rfl ⟨rfl, ?_, ?_⟩
      · exact (HT6.out.setCell (a := ⟨b, 1, none⟩) (fun _ => hFb.out) _).step HT9.out (fun k hk e => by omega)
      · have hrow7 := HROW6.out
        rw [← rcells_take, ← rcells_append, ← List.eraseIdx_eq_take_drop_succ] at hrow7
        have hst := RNetP.store HR6.out (.inl HN5.out.own) (by rw [List.length_eraseIdx, if_pos (by have := HM.out; omega)]; have := HM.out; omega) hrow7
        exact ((hst.turns HT9.out (fun k hk e => hgs.out k hk e)).mono fun k _ hk => hgF.out k hk).net
end Go.Proofs.Ytfhjpnhchggljaa
