/-
  Spend.
-/
import Derived.Test.YtfhjpnhchggljaaAlike
namespace Go.Proofs.Ytfhjpnhchggljaa
open Go.RowKit Go.Sha Go.Calm
attribute [local go_sem] Oper.semAt_some
def iv (k : Nat) : Value := .int .i64 k
theorem _root_.Go.Calm.RowOf.get1 {w : World} {F : Nat → Prop} {b : Nat} {cs : List Value} {p : Option Addr} {n c : Nat} (h : RowOf w F b 1 cs p n c) {i : Nat} (hi : i < n) : ∃ g u, p = some ⟨g, 0, none⟩ ∧ cs[i]? = some u ∧ w.cell? ⟨g, i, none⟩ = some u ∧ w.frozen? ⟨g, i, none⟩ = false := by
  cases hp : p with
  | none => have := (h.nil hp).1; omega
  | some ad =>
    obtain ⟨g, rfl, _, _, _, h5, h6⟩ := h.at_ ad hp
    have hl : i < cs.length := by rw [h.len]; omega
    have hu := List.getElem?_eq_getElem hl
    exact ⟨g, _, rfl, hu, h5 _ _ hu, (h6 i (by have := h.le; omega)).2⟩
theorem _root_.Go.Calm.RowOf.set1 {w : World} {F : Nat → Prop} {b : Nat} {cs : List Value} {g n c : Nat} (h : RowOf w F b 1 cs (some ⟨g, 0, none⟩) n c) {i : Nat} (hi : i < n) (v : Value) : RowOf (w.setCell ⟨g, i, none⟩ v) F b 1 (cs.set i v) (some ⟨g, 0, none⟩) n c := by
  refine ⟨by rw [List.length_set]; exact h.len, h.le, h.max, (fun e => by cases e), fun ad ha => ?_⟩
  obtain ⟨g', e, h2, h3, h4, h5, h6⟩ := h.at_ _ rfl
  cases e
  cases ha
  have hl : cs.length = n := by have := h.len; omega
  obtain ⟨u0, hu0⟩ := Option.isSome_iff_exists.1 (h6 i (by have := h.le; omega)).1
  refine ⟨g, rfl, h2, h3, by simpa [World.setCell] using h4, fun j u hu => ?_, fun j hj => ?_⟩
  · rw [List.getElem?_set] at hu
    split at hu
    · rename_i e; subst e
      split at hu
      · cases hu; exact World.cell?_setCell_same _ _ _ hu0
      · cases hu
    · rename_i e
      rw [World.cell?_setCell_other _ _ _ _ (fun e' => e (by injection e'))]
      exact h5 j u hu
  · rw [World.frozen?_setCell]
    refine ⟨?_, (h6 j hj).2⟩
    by_cases e : i = j
    · subst e; rw [World.cell?_setCell_same _ _ _ hu0]; rfl
    · rw [World.cell?_setCell_other _ _ _ _ (fun e' => e (by injection e'))]
      exact (h6 j hj).1
set_option maxRecDepth 100000 in
set_option maxHeartbeats 2000000 in
theorem spend_any (K F : Nat → Prop) (b : Nat) (p1 p2 : Option Addr) (m c1 c2 : Nat) (S : List (Nat × List UInt8)) (ls : List Nat) (x : Nat × List UInt8) (q : Option Addr) (cq : Nat) (by_ : Int) (f : Nat → Nat) (w : World)
    (h1 : LS w K p1 c1 S) (h2 : RowOf w F b 1 (ls.map iv) p2 m c2) (hm : m = S.length) (hx : x.1 < 256) (hq : BytesOf w q x.2.length cq x.2) (hf : ∀ k : Nat, ((k + 1 : Nat) : Int) + by_ = f k) (hls : ∀ k ∈ ls, k ≤ 5000) (hby : -1 ≤ by_ ∧ by_ ≤ 1)
    (hit : ∃ j k : Nat, S[j]? = some x ∧ ls[j]? = some (k + 1)) :
    Calls Try.prog 23 #[.slice p1 m c1, .slice p2 m c2, .agg #[.int .u8 x.1, .slice q x.2.length cq], .int .i64 by_] w fun en w' => en = .returned (.bool true) ∧ Turns (rowBlk p2) w w' ∧ ∃ j k : Nat, S[j]? = some x ∧ ls[j]? = some (k + 1) ∧ RowOf w' F b 1 ((ls.set j (f k)).map iv) p2 m c2 := by
  have hle1 := h1.le
  have hmx1 := h1.max
  have hle2 := h2.le
  have hmx2 := h2.max
  simp only [maxLen] at hmx1 hmx2
  rw [← hm] at hle1
  obtain ⟨wa, hwa⟩ : ∃ wa, wa = w.alloc (.cells #[.int .u8 x.1, .slice q x.2.length cq] 36) := ⟨_, rfl⟩
  have hta : Turns (fun _ => False) w wa := by rw [hwa]; exact (Turns.refl _ w).alloc _
  have ra : Rw wa w.heap.size [.int .u8 x.1, .slice q x.2.length cq] 36 := by rw [hwa]; exact Rw.new w _ 36
  have H1 := Calm.hid (h1.turns hta (fun _ _ h => h))
  have H2 := Calm.hid (h2.turns (w' := wa) hta (fun _ _ h => h))
  have HQ := Calm.hid (hq.turns hta (fun _ _ _ h => h))
  have HM := Calm.hid hm
  have HIT := Calm.hid hit
  have HLS := Calm.hid hls
  have HF := Calm.hid hf
  have HTA := Calm.hid hta
  have HRA := Calm.hid ra
  have HW := Calm.hid hwa
  have HB2 : Hid (∀ k, rowBlk p2 k → k < w.heap.size) := fun k hk => (h2.blk hk).2.2
  clear h1 h2 hq hit hls hf hta ra
  clear hm hwa
  go_enter Try.func23, Try.ntmps23
  go_wp2_with fail
  rw [← HW.out]
  go_loopw [9] (fun ct wr => ∃ i : Nat, i ≤ m ∧ ct = .int .i64 i ∧ (∃ k, wr = wa.drewN k) ∧ ∀ j k : Nat, j < i → S[j]? = some x → ls[j]? = some (k + 1) → False) (fun ct _ => m - (intOf ct).toNat)
  case atStart => exact ⟨0, by omega, rfl, ⟨0, rfl⟩, fun j k h => by omega⟩
  case round =>
    obtain ⟨i, him, rfl, ⟨dn, rfl⟩, hno⟩ := hrel
    have HNO := Calm.hid hno
    clear hno
    by_cases hlt : i < m
    · obtain ⟨g1, o1, q1, k1, y, rfl, hy, d0, d1, hb1, hy1, hy2⟩ := H1.out.get (i := i) (by rw [← HM.out]; exact hlt)
      obtain ⟨g2, u, rfl, hu, e0, ef⟩ := H2.out.get1 hlt
      rw [List.getElem?_map, Option.map_eq_some_iff] at hu
      obtain ⟨z, hz, rfl⟩ := hu
      have a0 := HRA.out.cell (i := 0) rfl
      have a1 := HRA.out.cell (i := 1) rfl
      have ks1 := fun n => (hb1.drewN n).str Try.underlying31 Try.underlying5 Try.underlying9
      have ks2 := fun n => (HQ.out.drewN n).str Try.underlying31 Try.underlying5 Try.underlying9
      have hz5 := HLS.out z (List.mem_of_getElem? hz)
      have HY := Calm.hid hy
      have HZ := Calm.hid hz
      unfold iv at e0
      clear hy hz hb1
      by_cases hz0 : z = 0
      · subst hz0
        go_wp2_with fail
        refine Calm.region_d 27 (by kernel_rfl) (by kernel_rfl) ?_
        simp only [List.take, List.drop]
        repeat (go_big_quiet_step (fail))
        refine wpQuiet_nil ?_
        rintro _ ⟨nq, rfl⟩
        refine wpList_nil ?_
        go_wp2
        go_roundw
        case rel =>
          refine ⟨i + 1, by omega, by go_num, ⟨dn + nq, rfl⟩, fun j k hj hj1 hj2 => ?_⟩
          by_cases hji : j = i
          · subst hji
            rw [HZ.out] at hj2; cases hj2
          · exact HNO.out j k (by omega) hj1 hj2
        case measure => simp [intOf]; omega
      · obtain ⟨k0, rfl⟩ : ∃ k0, z = k0 + 1 := ⟨z - 1, by omega⟩
        by_cases e1 : y.1 = x.1
        case' neg =>
          have hne : ((y.1 : Int) == (x.1 : Int)) = false := by simp; omega
          have E1 := Calm.hid e1
          clear e1
          go_wp2_with fail
          refine Calm.region_d 27 (by kernel_rfl) (by kernel_rfl) ?_
          simp only [List.take, List.drop]
          repeat (go_big_quiet_step (fail))
          refine wpQuiet_nil ?_
          rintro _ ⟨nq, rfl⟩
          refine wpList_nil ?_
          go_wp2
          go_roundw
          case rel =>
            refine ⟨i + 1, by omega, by go_num, ⟨dn + nq, rfl⟩, fun j k hj hj1 hj2 => ?_⟩
            by_cases hji : j = i
            · subst hji
              rw [HY.out] at hj1; cases hj1; exact E1.out rfl
            · exact HNO.out j k (by omega) hj1 hj2
          case measure => simp [intOf]; omega
        case' pos =>
          by_cases e2 : y.2 = x.2
          case' neg =>
            have E2 := Calm.hid e2
            have hne2 : (y.2 == x.2) = false := by rw [beq_eq_false_iff_ne]; exact e2
            rw [e1] at d0
            clear e1 e2
            go_wp2_with fail
            refine Calm.region_d 27 (by kernel_rfl) (by kernel_rfl) ?_
            simp only [List.take, List.drop]
            repeat (go_big_quiet_step (fail))
            refine wpQuiet_nil ?_
            rintro _ ⟨nq, rfl⟩
            refine wpList_nil ?_
            go_wp2
            go_roundw
            case rel =>
              refine ⟨i + 1, by omega, by go_num, ⟨dn + nq, rfl⟩, fun j k hj hj1 hj2 => ?_⟩
              by_cases hji : j = i
              · subst hji
                rw [HY.out] at hj1; cases hj1; exact E2.out rfl
              · exact HNO.out j k (by omega) hj1 hj2
            case measure => simp [intOf]; omega
          case' pos =>
            obtain rfl : y = x := Prod.ext e1 e2
            clear e1 e2
            go_wp2_with fail
            refine Calm.region_d 27 (by kernel_rfl) (by kernel_rfl) ?_
            simp only [List.take, List.drop]
            repeat (go_big_quiet_step (fail))
            refine wpQuiet_nil ?_
            rintro _ ⟨nq, rfl⟩
            refine wpList_nil ?_
            go_wp2
            go_ret
            refine ⟨rfl, ?_, i, k0, HY.out, HZ.out, ?_⟩
            · have h0 : Turns (rowBlk (some ⟨g2, 0, none⟩)) w (wa.drewN (dn + nq)) := (HTA.out.mono fun _ _ h => h.elim).drewN _
              exact h0.setCell (a := ⟨g2, i, none⟩) (fun _ => rowBlk_some.2 rfl) _
            · have hv : Value.int .i64 (((k0 : Nat) : Int) + 1 + by_) = iv (f k0) := by rw [iv, ← HF.out k0]; simp
              rw [hv, List.map_set]
              exact (H2.out.turns (w' := wa.drewN (dn + nq)) ((Turns.refl (fun _ => False) wa).drewN _) (fun _ _ h => h)).set1 hlt _
    · obtain ⟨j, k, hj1, hj2⟩ := HIT.out
      exact (HNO.out j k (by have := (List.getElem?_eq_some_iff.1 hj1).1; have := HM.out; omega) hj1 hj2).elim
end Go.Proofs.Ytfhjpnhchggljaa
