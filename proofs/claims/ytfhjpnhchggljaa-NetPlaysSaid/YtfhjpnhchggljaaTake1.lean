/-
  Take's closure.
-/
import Derived.Test.YtfhjpnhchggljaaSend
namespace Go.Proofs.Ytfhjpnhchggljaa
open Go.RowKit Go.Sha Go.Calm
attribute [local go_sem] Oper.semAt_some
section
variable {w : World} {K : Nat → Prop}
theorem LV.at : ∀ {cs : List Value} {L : List (Nat × List UInt8)}, LV w K cs L → ∀ {i : Nat} {x : Nat × List UInt8}, L[i]? = some x → ∃ q cq, cs[i * 2]? = some (.int .u8 x.1) ∧ cs[i * 2 + 1]? = some (.slice q x.2.length cq) ∧ LV w K [.int .u8 x.1, .slice q x.2.length cq] [x]
  | [], [], _, _, _, hi => by simp at hi
  | a :: s :: cs, y :: L, h, 0, x, hi => by
    simp at hi; subst hi
    obtain ⟨rfl, h1, h2, p, c, rfl, h3, h4⟩ := h.1
    exact ⟨p, c, rfl, rfl, LV.one h1 h2 h3 h4⟩
  | a :: s :: cs, y :: L, h, i + 1, x, hi => by
    obtain ⟨q, cq, h1, h2, h3⟩ := LV.at h.2 (i := i) (x := x) (by simpa using hi)
    exact ⟨q, cq, by rw [show (i + 1) * 2 = i * 2 + 1 + 1 by omega]; simpa using h1, by rw [show (i + 1) * 2 + 1 = i * 2 + 1 + 1 + 1 by omega]; simpa using h2, h3⟩
  | [], _ :: _, h, _, _, _ => h.elim
  | [_], _, h, _, _, _ => by simp only [LV] at h
  | _ :: _ :: _, [], h, _, _, _ => h.elim
theorem LV.take : ∀ {cs : List Value} {L : List (Nat × List UInt8)}, LV w K cs L → ∀ i, LV w K (cs.take (i * 2)) (L.take i)
  | [], [], _, _ => by simp [LV]
  | a :: s :: cs, y :: L, h, 0 => by simp [LV]
  | a :: s :: cs, y :: L, h, i + 1 => by rw [show (i + 1) * 2 = i * 2 + 1 + 1 by omega]; exact ⟨h.1, LV.take h.2 i⟩
  | [], _ :: _, h, _ => h.elim
  | [_], _, h, _ => by simp only [LV] at h
  | _ :: _ :: _, [], h, _ => h.elim
theorem LV.drop : ∀ {cs : List Value} {L : List (Nat × List UInt8)}, LV w K cs L → ∀ i, LV w K (cs.drop (i * 2)) (L.drop i)
  | [], [], _, _ => by simp [LV]
  | a :: s :: cs, y :: L, h, 0 => by simpa using h
  | a :: s :: cs, y :: L, h, i + 1 => by rw [show (i + 1) * 2 = i * 2 + 1 + 1 by omega]; exact LV.drop h.2 i
  | [], _ :: _, h, _ => h.elim
  | [_], _, h, _ => by simp only [LV] at h
  | _ :: _ :: _, [], h, _ => h.elim
end
set_option maxRecDepth 100000 in
set_option maxHeartbeats 1000000 in
theorem take1_any (F : Nat → Prop) (b n c : Nat) (p : Option Addr) (cs : List Value) (L : List (Nat × List UInt8)) (o bx bi : Nat) (vs : List Value) (t1 t2 : TypeId) (i : Nat) (x : Nat × List UInt8) (q : Option Addr) (cq : Nat) (w : World) (hN : NetP w F b n L p c cs)
    (hL : L.length ≤ 4096) (hx : L[i]? = some x) (ho : Rw w o vs 36) (hvs : vs.length = 2) (hbx : Rw w bx [.pointer (some ⟨b, 0, none⟩)] t1) (hbi : Rw w bi [.int .i64 i] t2) (fo : ¬ F o) (fx : ¬ F bx) (fi : ¬ F bi) (ox : bx ≠ o) (oi : bi ≠ o) :
    Calls Try.prog 27 #[.agg #[.int .u8 x.1, .slice q x.2.length cq], .pointer (some ⟨o, 0, none⟩), .pointer (some ⟨bx, 0, none⟩), .pointer (some ⟨bi, 0, none⟩)] w fun en w' => en = .returned (.int .i64 0) ∧ Turns (fun k => k = b ∨ rowBlk p k ∨ k = o) w w' ∧ Rw w' o [.int .u8 x.1, .slice q x.2.length cq] 36 ∧
      ∃ p' c' cs', NetP w' (fun k => F k ∨ w.heap.size ≤ k) b n (L.eraseIdx i) p' c' cs' ∧ ∀ k, k < w.heap.size → rowBlk p' k → rowBlk p k := by
  obtain ⟨i0, hi0, hz0, hz1, hz2⟩ := info_parts Try.info36
  obtain ⟨m, hm⟩ : ∃ m, m = L.length := ⟨_, rfl⟩
  have him : i < m := by rw [hm]; exact (List.getElem?_eq_some_iff.1 hx).1
  have HN := Calm.hid hN
  have HO := Calm.hid ho
  have HBX := Calm.hid hbx
  have HBI := Calm.hid hbi
  have HX := Calm.hid hx
  have HM := Calm.hid hm
  have hm4 : m ≤ 4096 := by omega
  clear hN ho hbx hbi hx hL
  clear hm
  go_enter Try.func27, Try.ntmps27
  go_wp2_with (refine wpList_store_rw rfl 36 (.tmp 1) (.tmp 6) rfl o [.int .u8 x.1, .slice q x.2.length cq] rfl rfl 36 vs (HO.out.alloc _) (by kernel_rfl) (by rw [hvs]; rfl) (one2 _ _ rfl rfl) ?_; intro w2 hr2 ht2; have HR2 := Calm.hid hr2; have HT2 : Hid (Turns (· = o) w w2) := ((Turns.refl _ w).alloc _).trans ht2; clear hr2 ht2)
  obtain ⟨R, hR⟩ : ∃ R : Nat → Prop, R = rowBlk p := ⟨_, rfl⟩
  have HR := Calm.hid hR
  have HN2 : Hid (NetP w2 F b n L p c cs) := HN.out.turns HT2.out (fun k hk e => fo (e ▸ hk))
  have hb := HN2.out.lt
  have hbR : ¬ R b := by rw [HR.out]; exact fun h => (HN.out.row.blk h).2.1 rfl
  clear hR
  have k1 : ∀ q : KeptR R w2, q.world.cell? ⟨b, 1, none⟩ = some (.slice p m c) := fun q => (q.turns.cell hb hbR).trans (by have := HN2.out.rw_.cell (i := 1) rfl; rwa [← HM.out] at this)
  have HX2 : Hid (Rw w2 bx [.pointer (some ⟨b, 0, none⟩)] t1) := HBX.out.turns HT2.out ox
  have HI2 : Hid (Rw w2 bi [.int .i64 i] t2) := HBI.out.turns HT2.out oi
  have k2 : ∀ q : KeptR R w2, q.world.cell? ⟨bx, 0, none⟩ = some (.pointer (some ⟨b, 0, none⟩)) := fun q => (q.turns.cell HX2.out.lt (by rw [HR.out]; exact fun h => fx (HN.out.row.blk h).1)).trans (HX2.out.cell (i := 0) rfl)
  have k3 : ∀ q : KeptR R w2, q.world.cell? ⟨bi, 0, none⟩ = some (.int .i64 i) := fun q => (q.turns.cell HI2.out.lt (by rw [HR.out]; exact fun h => fi (HN.out.row.blk h).1)).trans (HI2.out.cell (i := 0) rfl)
  obtain ⟨g, hg⟩ : ∃ g, p = some ⟨g, 0, none⟩ := by
    cases hp : p with
    | none => have := (HN.out.row.nil hp).1; have := HM.out; omega
    | some ad => obtain ⟨g, rfl, _⟩ := HN.out.row.at_ ad hp; exact ⟨g, rfl⟩
  subst hg
  have hmc : m ≤ c := by rw [HM.out]; exact HN.out.row.le
  go_frame
  refine region_lr R [true, true, true, true, true, true, true, true, true, true, true, true, true, true, true, false, false, false, false] (by kernel_rfl) (by kernel_rfl) (by kernel_rfl) ?_
  simp only [heads, tails]
  repeat (go_big_quiet_step (fail))
  obtain ⟨ad, had, hcase⟩ : ∃ ad : Addr, (if c = i + 1 then some (⟨g, 0, none⟩ : Addr) else some ⟨g, (i + 1) * 2, none⟩) = some ad ∧ (c ≠ i + 1 → ad = ⟨g, (i + 1) * 2, none⟩) := by
    by_cases h : c = i + 1
    · exact ⟨_, if_pos h, fun h' => absurd h h'⟩
    · exact ⟨_, if_neg h, fun _ => rfl⟩
  rw [had]
  refine wpQuiet_nil ?_
  have hT0 : Turns (fun _ => False) w2 w2.drew := (Turns.refl _ w2).drew
  have hlen : cs.length = m * 2 := by rw [HM.out]; exact HN.out.row.len
  refine wpL_step ?_
  refine wpList_append_row rfl (.tmp 14) (.tmp 21) 44 rfl 36 i0 _ 2 32 Try.underlying44 hi0 hz0 hz1 hz2 rfl (by decide) F (fun x => F x ∨ w.heap.size ≤ x) b i i (some ⟨g, 0, none⟩) (cs.take (i * 2)) rfl ?_ ?_ ?_ ?_ ad (m - (i + 1)) (c - (i + 1)) (cs.drop ((i + 1) * 2)) rfl ?_ ?_ ?_ ?_ ?_ ?_
  · exact (HN2.out.row.take (k := i) (by rw [← HM.out]; omega)).turns hT0 (fun _ _ h => h)
  · exact fun k _ h => .inl h
  · have := HT2.out.size; exact fun k hk => .inr (Nat.le_trans this hk)
  · exact hb
  · rw [List.length_drop, hlen]; omega
  · intro j u hu
    have hj := (List.getElem?_eq_some_iff.1 hu).1
    rw [List.length_drop] at hj
    have hc1 : c ≠ i + 1 := by omega
    rw [hcase hc1, add_plain]
    rw [List.getElem?_drop] at hu
    obtain ⟨g', e, _, _, _, h5, _⟩ := HN2.out.row.at_ _ rfl
    cases e
    exact h5 _ u hu
  · exact fun u hu => HN.out.lv.cells u (List.mem_of_mem_drop hu)
  · simp only [maxLen]; omega
  · omega
  intro p4 c4 w4 hrow ht4 hp4
  have HROW := Calm.hid hrow
  have HT4 : Hid (Turns (rowBlk (some ⟨g, 0, none⟩)) w2 w4) := hT0.mono (fun _ _ h => h.elim) |>.trans ht4
  have HP4 := Calm.hid hp4
  clear hrow ht4 hp4
  have HTR : Hid (Turns R w2 w4) := by rw [HR.out]; exact HT4.out
  have HRW4 : Hid (Rw w4 b [.int .i64 n, .slice (some ⟨g, 0, none⟩) m c] 59) := (by have := HN2.out.rw_; rw [← HM.out] at this; exact this.turns HTR.out hbR)
  refine wpList_nil ⟨rfl, rfl, .inr ⟨⟨w4, HTR.out⟩, rfl⟩, ?_⟩
  refine wpL_step ?_
  go_wp2
  refine ⟨⟨⟨w4, HTR.out⟩, rfl⟩, ?_⟩
  refine wpL_step ?_
  go_wp2
  refine ⟨⟨⟨w4, HTR.out⟩, rfl⟩, ?_⟩
  refine wpL_step ?_
  have d1 := HRW4.out.cell (i := 1) rfl
  have f1 := HRW4.out.free 1
  go_wp2
  refine wpL_nil ?_
  go_wp2
  go_ret
  have hlt := HRW4.out.lt
  have hfo : ¬ rowBlk (some ⟨g, 0, none⟩) o := fun h => fo (HN.out.row.blk h).1
  refine ⟨rfl, ?_, ?_, ?_⟩
  · refine ((HT2.out.mono fun x _ h => .inr (.inr h)).trans (HT4.out.mono fun x _ h => .inr (.inl h))).setCell (fun _ => .inl rfl) _
  · exact (HR2.out.turns HT4.out hfo).set_other (fun e => fo (by rw [e]; exact HN.out.own)) _
  · refine ⟨p4, c4, _, NetP.store HRW4.out (.inl HN.out.own) HN.out.most ?_ HROW.out ?_, fun k hk h => HP4.out k (Nat.lt_of_lt_of_le hk HT2.out.size) h⟩
    · have := HM.out; rw [List.length_eraseIdx, if_pos (by omega)]; omega
    · rw [List.eraseIdx_eq_take_drop_succ]
      refine LV.kept (LV.append (HN2.out.lv.take i) (HN2.out.lv.drop (i + 1))) HT4.out (fun _ _ h => .inl h) HP4.out (Nat.le_refl _)
end Go.Proofs.Ytfhjpnhchggljaa
