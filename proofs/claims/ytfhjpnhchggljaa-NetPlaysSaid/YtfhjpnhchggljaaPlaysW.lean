/-
  NetPlays' walk.
-/
import Derived.Test.YtfhjpnhchggljaaPlaysL
import Derived.Deep.DeepCutAuto
import Derived.Deep.Cut
import Derived.Deep.CutRange
import Derived.Deep.CutBlock
namespace Go.Proofs.Ytfhjpnhchggljaa
open Go.RowKit Go.Sha Go.Calm
attribute [local go_sem] Oper.semAt_some
theorem _root_.Go.Calm.RowOf.bytes {w : World} {F : Nat → Prop} {b : Nat} {l : List UInt8} {p : Option Addr} {n c : Nat} (h : RowOf w F b 1 (l.map bv) p n c) : BytesOf w p n c l := by
  have hl := h.len
  rw [List.length_map] at hl
  refine ⟨by omega, h.le, h.max, h.nil, fun ad ha j hj => ?_⟩
  obtain ⟨g, rfl, _, _, _, h5, _⟩ := h.at_ ad ha
  rw [Calm.add_plain, Nat.zero_add]
  exact h5 j _ (by simp [show j < l.length by omega])
theorem b7 : bv 7 = .int .u8 7 := rfl
theorem map_set_bv (l : List UInt8) (i : Nat) (x : UInt8) : (l.map bv).set i (bv x) = (l.set i x).map bv := (List.map_set ..).symm
theorem getElem?_map_bv {l : List UInt8} {i : Nat} {u : Value} (h : (l.map bv)[i]? = some u) : ∃ x, u = bv x := by
  rw [List.getElem?_map, Option.map_eq_some_iff] at h
  obtain ⟨x, _, rfl⟩ := h
  exact ⟨x, rfl⟩
theorem _root_.Go.Calm.RowOf.gets1 {w : World} {F : Nat → Prop} {b : Nat} {cs : List Value} {p : Option Addr} {n c : Nat} (h : RowOf w F b 1 cs p n c) {i : Nat} (hi : i < n) : ∃ g u, p = some ⟨g, 0, none⟩ ∧ cs[i]? = some u ∧ w.cell? ⟨g, i, none⟩ = some u ∧ w.frozen? ⟨g, i, none⟩ = false := by
  cases hp : p with
  | none => have := (h.nil hp).1; omega
  | some ad =>
    obtain ⟨g, rfl, _, _, _, h5, h6⟩ := h.at_ ad hp
    have hl : i < cs.length := by rw [h.len]; omega
    have hu := List.getElem?_eq_getElem hl
    exact ⟨g, _, rfl, hu, h5 _ _ hu, (h6 i (by have := h.le; omega)).2⟩
theorem _root_.Go.Calm.RowOf.sets1 {w : World} {F : Nat → Prop} {b : Nat} {cs : List Value} {g n c : Nat} (h : RowOf w F b 1 cs (some ⟨g, 0, none⟩) n c) {i : Nat} (hi : i < n) (v : Value) : RowOf (w.setCell ⟨g, i, none⟩ v) F b 1 (cs.set i v) (some ⟨g, 0, none⟩) n c := by
  refine ⟨by rw [List.length_set]; exact h.len, h.le, h.max, (fun e => by cases e), fun ad ha => ?_⟩
  obtain ⟨g', e, h2, h3, h4, h5, h6⟩ := h.at_ _ rfl
  cases e
  cases ha
  have hl : cs.length = n := by have := h.len; omega
  obtain ⟨u0, hu0⟩ := Option.isSome_iff_exists.1 (h6 i (by have := h.le; omega)).1
  refine ⟨g, rfl, h2, h3, by simpa [World.setCell] using h4, fun j u hu => ?_, fun j hj => ?_⟩
  · rw [List.getElem?_set] at hu
    split at hu
    · rename_i e; subst e
      split at hu
      · cases hu; exact World.cell?_setCell_same _ _ _ hu0
      · cases hu
    · rename_i e
      rw [World.cell?_setCell_other _ _ _ _ (fun e' => e (by injection e'))]
      exact h5 j u hu
  · rw [World.frozen?_setCell]
    refine ⟨?_, (h6 j hj).2⟩
    by_cases e : i = j
    · subst e; rw [World.cell?_setCell_same _ _ _ hu0]; rfl
    · rw [World.cell?_setCell_other _ _ _ _ (fun e' => e (by injection e'))]
      exact (h6 j hj).1
theorem take_strong (F : Nat → Prop) (b n : Nat) (L : List (Nat × List UInt8)) (i : Int) (w : World) (hN : Net w F b n L) (hL : L.length ≤ 4096) (h64 : -9223372036854775808 ≤ i ∧ i < 9223372036854775808) :
    Calls Try.prog 13 #[.pointer (some ⟨b, 0, none⟩), .int .i64 i] w fun en w' => ∃ q cq, en = .returned (.tuple #[.agg #[.int .u8 (takeX L i).1, .slice q (takeX L i).2.length cq], .int .i64 (takeE L i)]) ∧ Turns F w w' ∧
      Net w' (fun k => F k ∨ w.heap.size ≤ k) b n (takeL L i) ∧ LV w' (fun k => F k ∨ w.heap.size ≤ k) [.int .u8 (takeX L i).1, .slice q (takeX L i).2.length cq] [takeX L i] := by
  by_cases h : inR L i
  · obtain ⟨r, rfl⟩ : ∃ r : Nat, i = r := ⟨i.toNat, by have := h.1; omega⟩
    obtain ⟨x, hx⟩ := getElem?_of L (i := r) (by have := h.2; omega)
    have hget : L.getD (r : Int).toNat (0, []) = x := by simp [List.getD_eq_getElem?_getD, hx]
    rw [takeX, takeE, takeL, if_pos h, if_pos h, if_pos h, hget]
    refine (take_in F b n L r x w hN hL hx).mono ?_
    rintro e w2 ⟨q, cq, rfl, ht, p', c', cs', hn, hl⟩
    exact ⟨q, cq, rfl, ht, hn.net, hl.mono fun _ _ h => h.1⟩
  · rw [takeX, takeE, takeL, if_neg h, if_neg h, if_neg h]
    refine (take_out F b n L i w hN (by unfold inR at h; omega) h64).mono ?_
    rintro e w2 ⟨rfl, hb⟩
    refine ⟨none, 0, rfl, Turns.of_below hb, (hN.turns (Turns.of_below (R := fun _ => False) hb) (fun _ _ h => h)).mono fun k _ h => .inl h, ?_⟩
    exact LV.one (x := (0, [])) (by decide) (by simp) ⟨rfl, Nat.le_refl _, Nat.zero_le _, fun _ => ⟨rfl, rfl⟩, fun _ h => by cases h⟩ (fun ad h => by cases h)
/-- A slice of letters in new memory, whose bytes may be written. -/
structure Soft9 (w : World) (K : Nat → Prop) (p : Option Addr) (m c : Nat) : Prop where
  le : m ≤ c
  max : c ≤ maxLen
  get : ∀ k, k < m → ∃ g q n cq, p = some ⟨g, 0, none⟩ ∧ ¬ K g ∧ g < w.heap.size ∧ w.cell? ⟨g, k * 2 + 1, none⟩ = some (.slice q n cq) ∧ n ≤ 65536 ∧ n ≤ cq ∧ cq ≤ maxLen ∧
    (0 < n → ∃ g' o', q = some ⟨g', o', none⟩ ∧ K g' ∧ g' < w.heap.size ∧ ∀ j, j < n → (w.cell? ⟨g', o' + j, none⟩).isSome = true ∧ w.frozen? ⟨g', o' + j, none⟩ = false)
theorem LSoft.soft9 {w : World} {B b : Nat} {p : Option Addr} {c : Nat} {L : List (Nat × List UInt8)} (h : LSoft w B b p c L) {m : Nat} (hm : m = L.length) : Soft9 w (fun x => B ≤ x ∧ ¬ rowBlk p x) p m c := by
  subst hm
  refine ⟨h.le, h.max, fun k hk => ?_⟩
  obtain ⟨cs, hlv, hc⟩ := h.row
  cases hp : p with
  | none => have := (h.nil hp).1; subst this; simp at hk
  | some ad =>
    obtain ⟨g, rfl, hg, hB, hcell⟩ := hc ad hp
    have hx : L[k]? = some L[k] := List.getElem?_eq_getElem hk
    obtain ⟨q, cq, l0, l1, h1⟩ := hlv.at hx
    obtain ⟨_, _, h3, p', c', e, hb, hK⟩ := h1.1
    cases e
    refine ⟨g, q, _, cq, rfl, fun hn => hn.2 (by rw [rowBlk_some]), hg, hcell _ _ l1, h3, hb.le, hb.max, fun h0 => ?_⟩
    cases hq : q with
    | none => have := (hb.nil hq).1; omega
    | some aq =>
      subst hq
      obtain ⟨g', o', rfl⟩ := hb.plain h0
      have hk := hK _ rfl h0
      subst hp
      exact ⟨g', o', rfl, ⟨hk.1, hk.2.2.1⟩, hk.2.2.2.1, fun j hj => ⟨by rw [hb.cell hj]; rfl, hk.2.2.2.2 _⟩⟩
theorem Soft9.set {w : World} {K : Nat → Prop} {p : Option Addr} {m c : Nat} (h : Soft9 w K p m c) {g i : Nat} (hg : K g) (v : Value) : Soft9 (w.setCell ⟨g, i, none⟩ v) K p m c := by
  refine ⟨h.le, h.max, fun k hk => ?_⟩
  obtain ⟨g1, q, n, cq, rfl, h1, h2, h3, h4, h5, h6, h7⟩ := h.get k hk
  refine ⟨g1, q, n, cq, rfl, h1, by simpa [World.setCell] using h2, ?_, h4, h5, h6, fun h0 => ?_⟩
  · rw [World.cell?_setCell_other _ _ _ _ (fun e => by injection e with e; subst e; exact h1 hg)]; exact h3
  · obtain ⟨g', o', rfl, k1, k2, k3⟩ := h7 h0
    refine ⟨g', o', rfl, k1, by simpa [World.setCell] using k2, fun j hj => ?_⟩
    obtain ⟨k4, k5⟩ := k3 j hj
    rw [World.frozen?_setCell]
    refine ⟨?_, k5⟩
    obtain ⟨u0, hu0⟩ := Option.isSome_iff_exists.1 k4
    by_cases e : (⟨g, i, none⟩ : Addr) = ⟨g', o' + j, none⟩
    · rw [← e] at hu0 ⊢; rw [World.cell?_setCell_same _ _ _ hu0]; rfl
    · rw [World.cell?_setCell_other _ _ _ _ e]; exact k4
theorem Soft9.turns {w w' : World} {R K : Nat → Prop} {p : Option Addr} {m c : Nat} (h : Soft9 w K p m c) (t : Turns R w w') (hr : ∀ x, x < w.heap.size → ¬ R x) : Soft9 w' K p m c := by
  refine ⟨h.le, h.max, fun k hk => ?_⟩
  obtain ⟨g1, q, n, cq, e, h1, h2, h3, h4, h5, h6, h7⟩ := h.get k hk
  refine ⟨g1, q, n, cq, e, h1, Nat.lt_of_lt_of_le h2 t.size, (t.cell h2 (hr _ h2)).trans h3, h4, h5, h6, fun h0 => ?_⟩
  obtain ⟨g', o', e', k1, k2, k3⟩ := h7 h0
  refine ⟨g', o', e', k1, Nat.lt_of_lt_of_le k2 t.size, fun j hj => ?_⟩
  rw [t.cell k2 (hr _ k2), t.frozen k2 (hr _ k2)]
  exact k3 j hj
/-- What the loops of NetPlays hold. -/
def PL (w : World) (n : Nat) (wr : World) : Prop := ∃ L G A, WF n L ∧ PX w n L L G A wr
set_option maxRecDepth 100000 in
set_option maxHeartbeats 4000000 in
theorem plays_walk (n many : Int) (p : Option Addr) (m c : Nat) (xs : List AA) (w : World) (h : ActsOf w p m c xs) (hm64 : -9223372036854775808 ≤ many ∧ many < 9223372036854775808) :
    Calls Try.prog 3 #[.int .i64 n, .int .i64 many, .slice p m c] w fun en w' => en = .returned (.bool true) ∧ Below w.heap.size w w' := by
  obtain ⟨i5, hi5, hz5, hs5, hb5⟩ := info_parts Try.info5
  have H := Calm.hid h
  clear h
  go_enter Try.func3, Try.ntmps3
  go_wp2_with fail
  refine (great_any p m c xs w H.out).mono ?_
  rintro e w1 ⟨rfl, rfl | ⟨rfl, hm, hbig⟩⟩
  · go_wp2_with fail
    refine (wakes_any w1).mono ?_
    rintro e w2 ⟨rfl, hb⟩
    have HB := Calm.hid hb
    clear hb
    go_wp2
    go_ret
    exact ⟨rfl, HB.out⟩
  · have HBIG := Calm.hid hbig
    clear hbig
    by_cases hmany : 4200 < many
    · go_wp2_with fail
      refine (wakes_any w1).mono ?_
      rintro e w2 ⟨rfl, hb⟩
      have HB := Calm.hid hb
      clear hb
      go_wp2
      go_ret
      exact ⟨rfl, HB.out⟩
    · by_cases hn : n < 2 ∨ 8 < n
      · go_wp2_with fail
        refine (new_no n hn w1).mono ?_
        rintro e w2 ⟨rfl, rfl⟩
        go_wp2_with fail
        refine (rnew_no n hn w2).mono ?_
        rintro e w3 ⟨rfl, rfl⟩
        go_wp2_with fail
        refine (wakes_any w3).mono ?_
        rintro e w4 ⟨rfl, hb⟩
        have HB := Calm.hid hb
        clear hb
        go_wp2
        go_ret
        exact ⟨rfl, HB.out⟩
      · obtain ⟨nn, rfl⟩ : ∃ nn : Nat, n = nn := ⟨n.toNat, by omega⟩
        go_wp2_with fail
        refine (new_yes nn (by omega) (by omega) w1).mono ?_
        rintro e w2 ⟨rfl, hw2⟩
        have HW2 := Calm.hid hw2
        have hsz2 : w2.heap.size = w1.heap.size + 1 := by rw [hw2]; simp
        clear hw2
        go_wp2_with fail
        refine (rnew_yes nn (by omega) (by omega) w2).mono ?_
        rintro e w3 ⟨rfl, hw3⟩
        rw [hsz2]
        have hPL : PL w1 nn w3 := by
          have ht2 : Turns (fun _ => False) w1 w2 := by rw [HW2.out]; exact (Turns.refl _ _).alloc _
          have ht3 : Turns (fun _ => False) w2 w3 := by rw [hw3]; exact (Turns.refl _ _).alloc _
          have hs3 : w3.heap.size = w2.heap.size + 1 := by rw [hw3]; simp
          refine ⟨[], fun k => k = w1.heap.size, fun k => k = w1.heap.size + 1, ⟨by simp, fun x hx => by cases hx⟩, (ht2.trans ht3).mono fun _ _ h => h.elim, fun k hk => by omega, fun k hk => by omega, fun k hk => by omega, ?_, ?_⟩
          · have h1 : Net w2 (fun k => w1.heap.size ≤ k) w1.heap.size nn [] := by rw [HW2.out]; exact net_new w1 nn (by omega)
            exact (h1.mono (F' := fun k => k = w1.heap.size) fun k hk h => by omega).turns ht3 (fun _ _ h => h)
          · have h1 : RNet w3 (fun k => w2.heap.size ≤ k) w2.heap.size nn [] := by rw [hw3]; exact rnet_new w2 nn
            rw [← hsz2]
            exact h1.mono fun k hk h => by omega
        have HPL := Calm.hid hPL
        clear hPL hw3 HW2
        go_wp2_with fail
        go_loopw [10] (fun ct wr => ∃ i : Nat, i ≤ many.toNat ∧ ct = .int .i64 i ∧ PL w1 nn wr) (fun ct _ => many.toNat - (intOf ct).toNat)
        case atStart => exact ⟨0, by omega, rfl, HPL.out⟩
        case round =>
          obtain ⟨i, hi, rfl, hpl⟩ := hrel
          by_cases hlt : (i : Int) < many
          · obtain ⟨L, G, A, hwf, hpx⟩ := hpl
            have HWF := Calm.hid hwf
            have HPX := Calm.hid hpx
            clear hwf hpx
            obtain ⟨x, hx⟩ : ∃ x : UInt8, ((i : Int) % 256) = B8 x := ⟨UInt8.ofNat i, by unfold B8; rw [UInt8.toNat_ofNat']; omega⟩
            obtain ⟨wa, hwa⟩ : ∃ wa, wa = wr.alloc (.cells #[.int .u8 ((i : Int) % 256)] 5) := ⟨_, rfl⟩
            have hba : Below wr.heap.size wr wa := by rw [hwa]; exact (Below.refl _ _).alloc (Nat.le_refl _) _
            have hby : BytesOf wa (some ⟨wr.heap.size, 0, none⟩) 1 1 [x] := by rw [hwa, hx]; exact lit_bytes wr [x] (0, 0) (by simp [maxLen])
            have HPA := Calm.hid (HPX.out.below hba)
            have HBY := Calm.hid hby
            have HWA := Calm.hid hwa
            have hGr : Hid (¬ G wr.heap.size) := fun h => by have := (HPX.out.G1 _ h).2; omega
            have hAr : Hid (¬ A wr.heap.size) := fun h => by have := (HPX.out.A1 _ h).2; omega
            clear hba hby hwa hx
            go_wp2_with fail
            rw [← HWA.out]
            refine (send_any G w1.heap.size nn L 1 (some ⟨wr.heap.size, 0, none⟩) 1 1 wa HPA.out.net (by omega) [x] HBY.out).mono ?_
            rintro e w4 ⟨rfl, ht, hn⟩
            have HP4 := Calm.hid (HPA.out.netop ht hn)
            have HBY4 := Calm.hid (HBY.out.turns ht (fun ad ha _ h => by cases ha; exact hGr.out h))
            clear ht hn
            go_wp2_with fail
            refine (rsend_any A (w1.heap.size + 1) nn L 1 (some ⟨wr.heap.size, 0, none⟩) 1 1 w4 HP4.out.ref (by omega) [x] HBY4.out (fun ad ha _ h => by cases ha; exact hAr.out h)).mono ?_
            rintro e w5 ⟨rfl, ht, hn⟩
            have HP5 := Calm.hid (HP4.out.refop ht hn)
            clear ht hn
            go_wp2_with fail
            go_roundw
            case rel => exact ⟨i + 1, by omega, by go_num, _, _, _, HWF.out.send 1 [x], HP5.out⟩
            case measure => simp [intOf]; omega
          · have HP2 := Calm.hid hpl
            clear hpl hi
            go_wp2_with fail
            go_loopw [12] (fun ct wr => ∃ j : Nat, j ≤ m ∧ ct = .int .i64 j ∧ PL w1 nn wr) (fun ct _ => m - (intOf ct).toNat)
            case atStart => exact ⟨0, by omega, rfl, HP2.out⟩
            case round =>
              obtain ⟨j, hj, rfl, hpl⟩ := hrel
              obtain ⟨L, G, A, hwf, hpx⟩ := hpl
              have HWF := Calm.hid hwf
              have HPX := Calm.hid hpx
              clear hwf hpx
              by_cases hltm : j < m
              · have hbel : Below w1.heap.size w1 wr := HPX.out.turns.below (fun _ h => by omega)
                obtain ⟨g, o, a, rfl, ha, hmem, d0, d1, d2, d3⟩ := (H.out.below hbel).get hltm
                have HOK := Calm.hid (H.out.ok a hmem)
                have hto := HOK.out.to
                have hai := HOK.out.i
                have han := HBIG.out a hmem
                obtain ⟨wa, hwa⟩ : ∃ wa, wa = wr.alloc (.cells #[.int .i64 a.d, .int .i64 a.i, .int .u8 a.to, .slice a.p a.n a.c] 34) := ⟨_, rfl⟩
                have ra : Rw wa wr.heap.size a.cells 34 := by rw [hwa]; exact Rw.new wr _ 34
                have hba : Below wr.heap.size wr wa := by rw [hwa]; exact (Below.refl _ _).alloc (Nat.le_refl _) _
                have HPA := Calm.hid (HPX.out.below hba)
                have HRA := Calm.hid ra
                have HWA := Calm.hid hwa
                have hsa : wr.heap.size < wa.heap.size := ra.lt
                have hGr : Hid (¬ G wr.heap.size) := fun h => by have := (HPX.out.G1 _ h).2; omega
                have hAr : Hid (¬ A wr.heap.size) := fun h => by have := (HPX.out.A1 _ h).2; omega
                have hw1r : w1.heap.size ≤ wr.heap.size := HPX.out.turns.size
                clear hbel ha hmem hba
                clear hwa
                have c0 := ra.cell (i := 0) rfl
                have c1 := ra.cell (i := 1) rfl
                have c2 := ra.cell (i := 2) rfl
                have c3 := ra.cell (i := 3) rfl
                clear ra
                rw [HWA.out] at c0 c1 c2 c3
                go_upto_block 4 with fail
                go_cut [14] from 72 to 227 (fun ok wx => ok = .bool true ∧ PL w1 nn wx)
                case first =>
                  by_cases hd0 : a.d = 0
                  case' pos =>
                    rw [hd0] at d0 c0 HWA ⊢
                    clear hd0
                    go_wp2_with (at_builtin; rw [← HWA.out]; refine wpList_append_any rfl (.const (.slice none 0 0)) (.tmp 96) 31 rfl wa.heap.size 5 i5 (.int .u8 0) 1 1 Try.underlying31 hi5 hz5 hs5 hb5 rfl (by decide) _ _ _ rfl (World.ownsRow_nil _ _ _ _) a.p a.n a.c (a.b.map bv) rfl (by simp [HOK.out.b.len]) HOK.out.b.nil ?_ (BytesOf.one _) ?_ ?_ ?_ ?_)
                    · have := HOK.out.b.below (HPA.out.turns.below (fun _ h => by omega)); exact this.news
                    · simp [maxLen]; omega
                    · omega
                    · exact Nat.le_refl _
                    intro v2 w2 ho hg2
                    have ht2 : Turns (fun _ => False) wa w2 := Turns.of_grown hg2 (fun k hk => by simp [Value.ownBlock] at hk)
                    obtain ⟨p2, k2, rfl, hro, hpb⟩ := RowOf.own (b := w1.heap.size) (n := a.n) (cs := a.b.map bv) (by simpa using ho) (by omega) (F := fun k => wa.heap.size ≤ k) (fun k h => h)
                    have HRO := Calm.hid (hro.mono (F' := fun k => wa.heap.size ≤ k ∧ k < w2.heap.size) fun k hk h => ⟨h, hk⟩)
                    have HPB := Calm.hid hpb
                    have HP2' := Calm.hid (HPA.out.below (ht2.below (fun _ _ h => h)))
                    have hs2 := ht2.size
                    obtain ⟨R, hR⟩ : ∃ R : Nat → Prop, R = fun x => G x ∨ A x := ⟨_, rfl⟩
                    have hoR : ¬ R wr.heap.size := by rw [hR]; exact fun h => h.elim hGr.out hAr.out
                    have hra2 := HRA.out.turns ht2 id
                    have k2' : ∀ z : KeptR R w2, z.world.cell? ⟨wr.heap.size, 2, none⟩ = some (.int .u8 a.to) := fun z => (z.turns.cell hra2.lt hoR).trans (hra2.cell (i := 2) rfl)
                    have k3' : ∀ z : KeptR R w2, z.world.cell? ⟨wr.heap.size, 3, none⟩ = some (.slice a.p a.n a.c) := fun z => (z.turns.cell hra2.lt hoR).trans (hra2.cell (i := 3) rfl)
                    have HR := Calm.hid hR
                    have HPB3 : Hid (∀ g, rowBlk p2 g → wa.heap.size ≤ g ∧ g < w2.heap.size) := fun g hg => (HRO.out.blk hg).1
                    clear ho hg2 ht2 hro hpb hra2 c0 c1 c2 c3 d0 d1 d2 d3
                    clear hR
                    go_wp2_with fail
                    refine region_lr R [true, true, true, true, false, true, true, true, true, true, false, false, false] (by kernel_rfl) (by kernel_rfl) (by kernel_rfl) ?_
                    simp only [heads, tails]
                    repeat (go_big_quiet_step (fail))
                    refine wpQuiet_nil ?_
                    refine wpL_step ?_
                    go_wp2_with fail
                    have HPD := Calm.hid (HP2'.out.below (w' := w2.drew) ⟨rfl, rfl, rfl, Nat.le_refl _, fun _ _ => rfl⟩)
                    refine (send_any G w1.heap.size nn L a.to p2 a.n k2 _ HPD.out.net hto a.b (HRO.out.bytes.drewN 1)).mono ?_
                    rintro e w3 ⟨rfl, ht, hn⟩
                    obtain ⟨G3, hG3⟩ : ∃ G3 : Nat → Prop, G3 = fun x => G x ∨ w2.drew.heap.size ≤ x ∧ x < w3.heap.size := ⟨_, rfl⟩
                    have hp3 := HPD.out.netop ht hn
                    rw [← hG3] at hp3
                    have HP3 := Calm.hid hp3
                    have HGB : Hid (∀ g, rowBlk p2 g → ¬ G g ∧ ¬ A g) := fun g hg => by
                      have := HPB3.out g hg
                      exact ⟨fun h => by have := (HPX.out.G1 g h).2; omega, fun h => by have := (HPX.out.A1 g h).2; omega⟩
                    have HGB3 : Hid (∀ g, rowBlk p2 g → ¬ G3 g) := fun g hg h => by
                      rw [hG3] at h
                      have := HPB3.out g hg
                      exact h.elim (HGB.out g hg).1 (fun h => by have h1 : w2.drew.heap.size = w2.heap.size := rfl; omega)
                    have HT3 : Hid (Turns R w2 w3) := (Turns.refl R w2).drew.trans (ht.mono fun x _ h => by rw [HR.out]; exact .inl h)
                    have HRO3 := Calm.hid ((HRO.out.turns (w' := w2.drew) ((Turns.refl (fun _ => False) w2).drew) (fun _ _ h => h)).turns ht (fun g hg hG => (HGB.out g hg).1 hG))
                    have hs3 : w2.heap.size ≤ w3.heap.size := ht.size
                    clear ht hn hp3 hG3
                    go_wp2
                    refine ⟨⟨⟨w3, HT3.out⟩, rfl⟩, ?_⟩
                    refine wpL_step ?_
                    go_wp2_with fail
                    have hlow : Hid (∀ ad, a.p = some ad → 0 < a.n → ad.block < w1.heap.size) := fun ad ha h0 => by
                      have := World.block_lt_of_cell? w1 _ (HOK.out.b.at_ ad ha 0 h0)
                      have e : (ad.add 0).block = ad.block := by unfold Addr.add; split <;> rfl
                      rwa [e] at this
                    refine (rsend_any A (w1.heap.size + 1) nn L a.to a.p a.n a.c w3 HP3.out.ref hto a.b (HOK.out.b.below (HP3.out.turns.below (fun _ h => by omega))) (fun ad ha h0 h => by have := hlow.out ad ha h0; have := (HPX.out.A1 _ h).1; omega)).mono ?_
                    rintro e w4 ⟨rfl, ht, hn⟩
                    obtain ⟨A4, hA4⟩ : ∃ A4 : Nat → Prop, A4 = fun x => A x ∨ w3.heap.size ≤ x ∧ x < w4.heap.size := ⟨_, rfl⟩
                    have hp4 := HP3.out.refop ht hn
                    rw [← hA4] at hp4
                    have HP4 := Calm.hid hp4
                    have HGB4 : Hid (∀ g, rowBlk p2 g → ¬ A4 g) := fun g hg h => by
                      rw [hA4] at h
                      have := HPB3.out g hg
                      exact h.elim (HGB.out g hg).2 (fun h => by omega)
                    have HT4 : Hid (Turns R w2 w4) := HT3.out.trans (ht.mono fun x _ h => by rw [HR.out]; exact .inr h)
                    have HRO4 := Calm.hid (HRO3.out.turns ht (fun g hg hG => (HGB.out g hg).2 hG))
                    clear ht hn hp4 hA4
                    go_wp2
                    refine ⟨⟨⟨w4, HT4.out⟩, rfl⟩, ?_⟩
                    refine wpL_step ?_
                    go_wp2
                    refine ⟨⟨⟨w4, HT4.out⟩, rfl⟩, ?_⟩
                    refine wpL_step ?_
                    go_wp2
                    refine wpL_nil ?_
                    clear k2' k3'
                    go_wp2_with fail
                    have hcm := HRO4.out.max
                    have hcl := HRO4.out.le
                    simp only [maxLen] at hcm
                    go_loopw [16] (fun ct wx => ∃ (i : Nat) (bs : List UInt8), i ≤ a.n ∧ ct = .int .i64 i ∧ RowOf wx (fun k => wa.heap.size ≤ k ∧ k < w2.heap.size) w1.heap.size 1 (bs.map bv) p2 a.n k2 ∧ PX w1 nn (sendL nn L a.to a.b) (sendL nn L a.to a.b) G3 A4 wx) (fun ct _ => a.n - (intOf ct).toNat)
                    case atStart => exact ⟨0, a.b, by omega, rfl, HRO4.out, HP4.out⟩
                    case round =>
                      obtain ⟨i, bs, hi, rfl, hro, hpx⟩ := hrel
                      have HROI := Calm.hid hro
                      have HPXI := Calm.hid hpx
                      clear hro hpx
                      by_cases hlti : i < a.n
                      · obtain ⟨g5, u5, rfl, hu5, e5, f5⟩ := HROI.out.gets1 hlti
                        obtain ⟨x5, rfl⟩ := getElem?_map_bv hu5
                        clear hu5
                        unfold bv at e5
                        go_wp2_with fail
                        go_roundw
                        case rel =>
                          refine ⟨i + 1, bs.set i 7, by omega, by go_num, ?_, ?_⟩
                          · have := HROI.out.sets1 hlti (bv 7)
                            rwa [map_set_bv] at this
                          · exact HPXI.out.turn (R := fun x => x = g5) ((Turns.refl (fun x => x = g5) _).setCell (a := ⟨g5, i, none⟩) (fun _ => rfl) _) (fun x hx => by have := HPB3.out x (by rw [rowBlk_some]; exact hx); have := HPX.out.turns.size; omega) (fun x hx => ⟨HGB3.out x (by rw [rowBlk_some]; exact hx), HGB4.out x (by rw [rowBlk_some]; exact hx)⟩)
                        case measure => simp [intOf]; omega
                      · go_wp2_with fail
                        go_meet
                        exact ⟨rfl, _, _, _, HWF.out.send _ _, HPXI.out⟩
                  case' neg =>
                    have hd0b : ((a.d : Int) == 0) = false := by simp [hd0]
                    have hta : Turns (fun _ => False) wr wa := by rw [HWA.out]; exact (Turns.refl _ _).alloc _
                    have e1 := HRA.out.cell (i := 1) rfl
                    by_cases hd1 : a.d = 1
                    case' pos =>
                      rw [hd1] at d0 c0 HWA hd0b ⊢
                      clear hd1 hd0
                      go_wp2_with fail
                      rw [← HWA.out]
                      refine (take_strong G w1.heap.size nn L a.i wa HPA.out.net HWF.out.1 hai).mono ?_
                      rintro e w2 ⟨q, cq, rfl, ht, hn, hlv⟩
                      have HP2 := Calm.hid (HPA.out.netop ht hn)
                      have HR2 := Calm.hid (HRA.out.turns ht hGr.out)
                      have HLV2 := Calm.hid hlv
                      have hs2 := ht.size
                      obtain ⟨w3, hw3⟩ : ∃ w3, w3 = w2.alloc (.cells #[.int .u8 (takeX L a.i).1, .slice q (takeX L a.i).2.length cq] 36) := ⟨_, rfl⟩
                      have hb3 : Below w2.heap.size w2 w3 := by rw [hw3]; exact (Below.refl _ _).alloc (Nat.le_refl _) _
                      have r3 : Rw w3 w2.heap.size [.int .u8 (takeX L a.i).1, .slice q (takeX L a.i).2.length cq] 36 := by rw [hw3]; exact Rw.new w2 _ 36
                      have HP3 := Calm.hid (HP2.out.below hb3)
                      have HR3 := Calm.hid (HR2.out.below hb3)
                      have HT3 := Calm.hid r3
                      have HLV3 := Calm.hid (hlv.turns (Turns.of_below (R := fun _ => False) hb3) (fun _ _ h => h))
                      have HW3 := Calm.hid hw3
                      have k1 := HR3.out.cell (i := 1) rfl
                      have hA3 : Hid (¬ A w2.heap.size) := fun h => by have := (HPX.out.A1 _ h).2; omega
                      rw [hw3] at k1
                      clear ht hn hlv hb3 r3 c0 c1 c2 c3 d0 d1 d2 d3
                      clear hw3
                      go_wp2_with fail
                      rw [← HW3.out]
                      refine (rtake_any A (w1.heap.size + 1) nn L a.i w3 HP3.out.ref HWF.out.1).mono ?_
                      rintro e w4 ⟨rfl, ht, hn⟩
                      unfold rtup
                      have HP4 := Calm.hid (HP3.out.refop ht hn)
                      have HT4 := Calm.hid (HT3.out.turns ht hA3.out)
                      have HLV4 := Calm.hid (HLV3.out.turns ht (fun k h hA => h.elim (fun h => HPX.out.dis k h hA) (fun h => by have := (HPX.out.A1 k hA).2; omega)))
                      obtain ⟨w5, hw5⟩ : ∃ w5, w5 = w4.alloc (.cells #[.int .u8 (takeX L a.i).1, .string ⟨(takeX L a.i).2.toArray⟩] 40) := ⟨_, rfl⟩
                      have hb5 : Below w4.heap.size w4 w5 := by rw [hw5]; exact (Below.refl _ _).alloc (Nat.le_refl _) _
                      have r5 : Rw w5 w4.heap.size [.int .u8 (takeX L a.i).1, .string ⟨(takeX L a.i).2.toArray⟩] 40 := by rw [hw5]; exact Rw.new w4 _ 40
                      have HP5 := Calm.hid (HP4.out.below hb5)
                      have HT5 := HT4.out.below hb5
                      have HLV5 := Calm.hid (HLV4.out.turns (Turns.of_below (R := fun _ => False) hb5) (fun _ _ h => h))
                      have f0 := HT5.cell (i := 0) rfl
                      have f1 := HT5.cell (i := 1) rfl
                      have f2 := r5.cell (i := 0) rfl
                      have f3 := r5.cell (i := 1) rfl
                      rw [hw5] at f0 f1 f2 f3
                      obtain ⟨w6, hw6⟩ : ∃ w6, w6 = w5.alloc (.cells #[.int .u8 (takeX L a.i).1, .slice q (takeX L a.i).2.length cq] 36) := ⟨_, rfl⟩
                      obtain ⟨w7, hw7⟩ : ∃ w7, w7 = w6.alloc (.cells #[.int .u8 (takeX L a.i).1, .string ⟨(takeX L a.i).2.toArray⟩] 40) := ⟨_, rfl⟩
                      have hs5 : w5.heap.size = w4.heap.size + 1 := by rw [hw5]; simp
                      have hs6 : w6.heap.size = w4.heap.size + 1 + 1 := by rw [hw6]; simp [hs5]
                      have hb6 : Below w5.heap.size w5 w6 := by rw [hw6]; exact (Below.refl _ _).alloc (Nat.le_refl _) _
                      have hb7 : Below w6.heap.size w6 w7 := by rw [hw7]; exact (Below.refl _ _).alloc (Nat.le_refl _) _
                      have r6 : Rw w6 (w4.heap.size + 1) [.int .u8 (takeX L a.i).1, .slice q (takeX L a.i).2.length cq] 36 := by rw [hw6, ← hs5]; exact Rw.new w5 _ 36
                      have r7 : Rw w7 (w4.heap.size + 1 + 1) [.int .u8 (takeX L a.i).1, .string ⟨(takeX L a.i).2.toArray⟩] 40 := by rw [hw7, ← hs6]; exact Rw.new w6 _ 40
                      have hlv7 := (HLV5.out.turns (Turns.of_below (R := fun _ => False) hb6) (fun _ _ h => h)).turns (Turns.of_below (R := fun _ => False) hb7) (fun _ _ h => h)
                      have hls : LS w7 (fun _ => True) (some ⟨w4.heap.size + 1, 0, none⟩) 1 [takeX L a.i] := by
                        have r6' := r6.below hb7
                        refine ⟨by simp, by simp [maxLen], (fun e => by cases e), _, hlv7.mono (fun _ _ _ => trivial), fun ad ha => ⟨_, 0, by cases ha; rfl, r6'.lt, trivial, fun j u hu => by rw [Nat.zero_add]; exact r6'.cell hu⟩⟩
                      have hrs : RS w7 (some ⟨w4.heap.size + 1 + 1, 0, none⟩) 1 [takeX L a.i] :=
                        ⟨by simp, by simp [maxLen], (fun e => by cases e), fun ad ha => ⟨_, 0, by cases ha; rfl, r7.lt, fun j u hu => by rw [Nat.zero_add]; exact r7.cell hu⟩⟩
                      have HLS := Calm.hid hls
                      have HRS := Calm.hid hrs
                      have HP7 := Calm.hid ((HP5.out.below hb6).below hb7)
                      have HW567 : Hid (w7 = ((w4.alloc (.cells #[.int .u8 (takeX L a.i).1, .string ⟨(takeX L a.i).2.toArray⟩] 40)).alloc (.cells #[.int .u8 (takeX L a.i).1, .slice q (takeX L a.i).2.length cq] 36)).alloc (.cells #[.int .u8 (takeX L a.i).1, .string ⟨(takeX L a.i).2.toArray⟩] 40)) := by unfold Hid; rw [hw7, hw6, hw5]
                      clear hls hrs hlv7 r6 r7 hb5 hb6 hb7 r5 HT5 hs5 hs6
                      clear hw7
                      clear hw6
                      clear hw5
                      clear ht hn k1
                      go_wp2_with fail
                      rw [← HW567.out]
                      refine (same_any (fun _ => True) _ _ 1 1 1 [takeX L a.i] w7 HLS.out HRS.out rfl).mono ?_
                      rintro e w8 ⟨rfl, hb⟩
                      have HP8 := Calm.hid (HP7.out.below hb)
                      clear hb f0 f1 f2 f3
                      go_wp2_with fail
                      go_meet
                      exact ⟨rfl, _, _, _, HWF.out.take a.i, HP8.out⟩
                    case' neg =>
                      have hd1b : ((a.d : Int) == 1) = false := by simp [hd1]
                      by_cases hd2 : a.d = 2
                      case' pos =>
                        rw [hd2] at d0 c0 HWA hd0b hd1b ⊢
                        clear hd2 hd1 hd0
                        go_wp2_with fail
                        rw [← HWA.out]
                        refine (rtake_any A (w1.heap.size + 1) nn L a.i wa HPA.out.ref HWF.out.1).mono ?_
                        rintro e w2 ⟨rfl, ht, hn⟩
                        unfold rtup
                        have HP2 := Calm.hid (HPA.out.refop ht hn)
                        have HR2 := Calm.hid (HRA.out.turns ht hAr.out)
                        have hs2 := ht.size
                        obtain ⟨w3, hw3⟩ : ∃ w3, w3 = w2.alloc (.cells #[.int .u8 (takeX L a.i).1, .string ⟨(takeX L a.i).2.toArray⟩] 40) := ⟨_, rfl⟩
                        have hb3 : Below w2.heap.size w2 w3 := by rw [hw3]; exact (Below.refl _ _).alloc (Nat.le_refl _) _
                        have HP3 := Calm.hid (HP2.out.below hb3)
                        have k1 := (HR2.out.below hb3).cell (i := 1) rfl
                        have HW3 := Calm.hid hw3
                        rw [hw3] at k1
                        clear ht hn hb3 c0 c1 c2 c3 d0 d1 d2 d3
                        clear hw3
                        go_wp2_with fail
                        rw [← HW3.out]
                        refine (lose_any G w1.heap.size nn L a.i w3 HP3.out.net HWF.out.1 hai).mono ?_
                        rintro e w4 ⟨rfl, ht, hn⟩
                        have HP4 := Calm.hid (HP3.out.netop ht hn)
                        clear ht hn k1
                        go_wp2_with fail
                        go_meet
                        exact ⟨rfl, _, _, _, HWF.out.take a.i, HP4.out⟩
                      case' neg =>
                        have hd2b : ((a.d : Int) == 2) = false := by simp [hd2]
                        obtain ⟨R, hR⟩ : ∃ R : Nat → Prop, R = fun x => G x ∨ A x := ⟨_, rfl⟩
                        have hoR : ¬ R wr.heap.size := by rw [hR]; exact fun h => h.elim hGr.out hAr.out
                        have hra2 := HRA.out
                        have k1' : ∀ z : KeptR R wa, z.world.cell? ⟨wr.heap.size, 1, none⟩ = some (.int .i64 a.i) := fun z => (z.turns.cell hra2.lt hoR).trans (hra2.cell (i := 1) rfl)
                        have HR := Calm.hid hR
                        have HPD := Calm.hid (HPA.out.below (w' := wa.drew) ⟨rfl, rfl, rfl, Nat.le_refl _, fun _ _ => rfl⟩)
                        clear hra2
                        clear hR
                        by_cases hd3 : a.d = 3
                        case' pos =>
                          rw [hd3] at d0 c0 HWA hd0b hd1b hd2b ⊢
                          clear hd3 hd2 hd1 hd0 c0 c1 c2 c3 d0 d1 d2 d3
                          go_wp2_with fail
                          rw [← HWA.out]
                          refine region_lr R [true, true, true, false, true, true, true, false, false, false] (by kernel_rfl) (by kernel_rfl) (by kernel_rfl) ?_
                          simp only [heads, tails]
                          repeat (go_big_quiet_step (fail))
                          refine wpQuiet_nil ?_
                          refine wpL_step ?_
                          go_wp2_with fail
                          refine (double_any G w1.heap.size nn L a.i _ HPD.out.net hai).mono ?_
                          rintro e w3 ⟨rfl, ht, hn⟩
                          have HP3 := Calm.hid (HPD.out.netop ht hn)
                          have HT3 : Hid (Turns R wa w3) := (Turns.refl R wa).drew.trans (ht.mono fun x _ h => by rw [HR.out]; exact .inl h)
                          clear ht hn
                          go_wp2
                          refine ⟨⟨⟨w3, HT3.out⟩, rfl⟩, ?_⟩
                          refine wpL_step ?_
                          go_wp2_with fail
                          refine (rdouble_any A (w1.heap.size + 1) nn L a.i w3 HP3.out.ref HWF.out.1).mono ?_
                          rintro e w4 ⟨rfl, ht, hn⟩
                          have HP4 := Calm.hid (HP3.out.refop ht hn)
                          have HT4 : Hid (Turns R wa w4) := HT3.out.trans (ht.mono fun x _ h => by rw [HR.out]; exact .inr h)
                          clear ht hn
                          obtain ⟨he, hl⟩ := HWF.out.same a.i
                          rw [he]
                          have HL := Calm.hid hl
                          clear he
                          clear hl
                          go_wp2
                          refine ⟨⟨⟨w4, HT4.out⟩, rfl⟩, ?_⟩
                          refine wpL_step ?_
                          go_wp2
                          refine ⟨⟨⟨w4, HT4.out⟩, rfl⟩, ?_⟩
                          refine wpL_step ?_
                          go_wp2
                          refine wpL_nil ?_
                          go_wp2_with fail
                          go_meet
                          exact ⟨rfl, _, _, _, HWF.out.double a.i, by have := HP4.out; rw [HL.out] at this; exact this⟩
                        case' neg =>
                          have hd3b : ((a.d : Int) == 3) = false := by simp [hd3]
                          clear hd3 hd2 hd1 hd0
                          go_wp2_with fail
                          rw [← HWA.out]
                          refine region_lr R [true, true, true, false, true, true, true, false, false, false] (by kernel_rfl) (by kernel_rfl) (by kernel_rfl) ?_
                          clear c0 c1 c2 c3 d0 d1 d2 d3
                          simp only [heads, tails]
                          repeat (go_big_quiet_step (fail))
                          refine wpQuiet_nil ?_
                          refine wpL_step ?_
                          go_wp2_with fail
                          refine (hold_any G w1.heap.size nn L a.i _ HPD.out.net HWF.out.1 hai).mono ?_
                          rintro e w3 ⟨rfl, ht, hn⟩
                          have HP3 := Calm.hid (HPD.out.netop ht hn)
                          have HT3 : Hid (Turns R wa w3) := (Turns.refl R wa).drew.trans (ht.mono fun x _ h => by rw [HR.out]; exact .inl h)
                          clear ht hn
                          go_wp2
                          refine ⟨⟨⟨w3, HT3.out⟩, rfl⟩, ?_⟩
                          refine wpL_step ?_
                          go_wp2_with fail
                          refine (rhold_any A (w1.heap.size + 1) nn L a.i w3 HP3.out.ref HWF.out.1).mono ?_
                          rintro e w4 ⟨rfl, ht, hn⟩
                          have HP4 := Calm.hid (HP3.out.refop ht hn)
                          have HT4 : Hid (Turns R wa w4) := HT3.out.trans (ht.mono fun x _ h => by rw [HR.out]; exact .inr h)
                          clear ht hn
                          go_wp2
                          refine ⟨⟨⟨w4, HT4.out⟩, rfl⟩, ?_⟩
                          refine wpL_step ?_
                          go_wp2
                          refine ⟨⟨⟨w4, HT4.out⟩, rfl⟩, ?_⟩
                          refine wpL_step ?_
                          go_wp2
                          refine wpL_nil ?_
                          go_wp2_with fail
                          go_meet
                          exact ⟨rfl, _, _, _, HWF.out.hold a.i, HP4.out⟩
                case rest =>
                  obtain ⟨rfl, hpl⟩ := hcut
                  clear HPX HPA HRA HWA HWF hsa hGr hAr hw1r c0 c1 c2 c3 d0 d1 d2 d3 HPL HP2
                  obtain ⟨L', G', A', hwf', hpx'⟩ := hpl
                  obtain ⟨l, hl⟩ : ∃ l, l = L'.length := ⟨_, rfl⟩
                  have hl4 : l ≤ 4096 := by have := hwf'.1; omega
                  obtain ⟨rp, rc, hrn⟩ := hpx'.ref
                  have hrw := hrn.rw_
                  rw [← hl] at hrw
                  have r1 := hrw.cell (i := 1) rfl
                  have hRS := hrn.rs
                  have HWF' := Calm.hid hwf'
                  have HPX' := Calm.hid hpx'
                  have HL := Calm.hid hl
                  have HRW := Calm.hid hrw
                  have HRS := Calm.hid hRS
                  have hlen : ∀ k, Calls Try.prog 21 #[.pointer (some ⟨w1.heap.size, 0, none⟩)] (wc.drewN k) fun e w' => e = .returned (.int .i64 l) ∧ w' = wc.drewN k := fun k => by
                    rw [HL.out]
                    exact len_any G' w1.heap.size nn L' _ (HPX'.out.net.turns ((Turns.refl (fun _ => False) wc).drewN k) (fun _ _ h => h))
                  have HLEN := Calm.hid hlen
                  clear hwf' hpx' hrn hrw hRS hlen
                  clear hl
                  go_wp2_with fail
                  refine Calm.region_d 12 (by kernel_rfl) (by kernel_rfl) ?_
                  simp only [List.take, List.drop]
                  repeat (go_big_quiet_step ((go_at_call 21; refine (HLEN.out _).mono ?_; rintro e1 w1 ⟨rfl, rfl⟩; exact ⟨rfl, _, rfl⟩)))
                  refine wpQuiet_nil ?_
                  rintro _ ⟨nq, rfl⟩
                  have hbd : Below wc.heap.size wc (wc.drewN nq) := ⟨rfl, rfl, rfl, Nat.le_refl _, fun _ _ => rfl⟩
                  have HPD := Calm.hid (HPX'.out.below hbd)
                  clear hbd
                  refine wpList_nil ?_
                  go_wp2_with fail
                  case roundEnd =>
                    go_roundw
                    case rel => exact ⟨j + 1, by omega, by go_num, _, _, _, HWF'.out, HPD.out⟩
                    case measure => simp [intOf]; omega
                  all_goals
                    refine (letters_soft G' w1.heap.size nn L' (wc.drewN nq) HPD.out.net HWF'.out.1).mono ?_
                    rintro e w5 ⟨p3, c3, rfl, hs, hb⟩
                    rw [← HL.out]
                    have HP5 := Calm.hid (HPD.out.below hb)
                    have r5 := ((HRW.out.drewN nq).below hb).cell (i := 1) rfl
                    have HS := Calm.hid hs
                    have HB5 := Calm.hid hb
                    have hs5 : wc.heap.size ≤ w5.heap.size := hb.size
                    have HRS5 : Hid (RS w5 rp rc L') := (HRS.out.below (w' := wc.drewN nq) ⟨rfl, rfl, rfl, Nat.le_refl _, fun _ _ => rfl⟩).below hb
                    have HGG : Hid (∀ x, G' x → x < wc.heap.size) := fun x h => (HPX'.out.G1 x h).2
                    have HAA : Hid (∀ x, A' x → x < wc.heap.size) := fun x h => (HPX'.out.A1 x h).2
                    have hwc : w1.heap.size ≤ wc.heap.size := HPX'.out.turns.size
                    clear hs hb r1
                    go_wp2_with fail
                    refine (same_any (fun k => (wc.drewN nq).heap.size ≤ k) p3 rp l c3 rc L' w5 HS.out.ls HRS5.out HL.out).mono ?_
                    rintro e w6 ⟨rfl, hb⟩
                    have HP6 := Calm.hid (HP5.out.below hb)
                    have HS9 := Calm.hid (HS.out.soft9 HL.out)
                    have HS6 := Calm.hid (HS9.out.turns (Turns.of_below (R := fun _ => False) hb) (fun _ _ h => h))
                    have hle3 := HS9.out.le
                    have hmx3 := HS9.out.max
                    simp only [maxLen] at hmx3
                    clear hb r5
                    obtain ⟨K, hK⟩ : ∃ K : Nat → Prop, K = fun x => (wc.drewN nq).heap.size ≤ x ∧ ¬ rowBlk p3 x := ⟨_, rfl⟩
                    rw [← hK] at HS6
                    have HK : Hid (∀ x, K x → wc.heap.size ≤ x) := fun x hx => by rw [hK] at hx; exact hx.1
                    clear HS9 HS
                    clear hK
                    go_wp2_with fail
                    go_loopw [24] (fun ct wx => ∃ k : Nat, k ≤ l ∧ ct = .int .i64 k ∧ PX w1 nn L' L' G' A' wx ∧ Soft9 wx K p3 l c3) (fun ct _ => l - (intOf ct).toNat)
                    case atStart => exact ⟨0, by omega, rfl, HP6.out, HS6.out⟩
                    case round =>
                      obtain ⟨k, hk, rfl, hpx, hs9⟩ := hrel
                      have HPK := Calm.hid hpx
                      have HSK := Calm.hid hs9
                      clear hpx hs9
                      by_cases hltk : k < l
                      · obtain ⟨g7, q7, n7, cq7, hp3, hng, hgl, d7, hn7, hnc7, hcm7, hq7⟩ := HSK.out.get k hltk
                        subst hp3
                        have HNG := Calm.hid hng
                        clear hng hq7 hgl
                        simp only [maxLen] at hcm7
                        go_wp2_with fail
                        go_loopw [25] (fun ct wx => ∃ i : Nat, i ≤ n7 ∧ ct = .int .i64 i ∧ PX w1 nn L' L' G' A' wx ∧ Soft9 wx K (some ⟨g7, 0, none⟩) l c3 ∧ wx.cell? ⟨g7, k * 2 + 1, none⟩ = some (.slice q7 n7 cq7)) (fun ct _ => n7 - (intOf ct).toNat)
                        case atStart => exact ⟨0, by omega, rfl, HPK.out, HSK.out, d7⟩
                        case round =>
                          clear d7
                          obtain ⟨i, hi, rfl, hpx, hs9, d7⟩ := hrel
                          have HPI := Calm.hid hpx
                          have HSI := Calm.hid hs9
                          clear hpx hs9
                          by_cases hlti : i < n7
                          · obtain ⟨g8, q8, n8, cq8, hp8, _, hgl, d8, _, _, _, hq8⟩ := HSI.out.get k hltk
                            cases hp8
                            rw [d7] at d8
                            cases d8
                            obtain ⟨g9, o9, rfl, hK9, hl9, hc9⟩ := hq8 (by omega)
                            obtain ⟨e9, f9⟩ := hc9 i hlti
                            obtain ⟨v9, e9⟩ := Option.isSome_iff_exists.1 e9
                            have HK9 := Calm.hid hK9
                            clear hq8 hc9 hK9
                            go_wp2_with fail
                            go_roundw
                            case rel =>
                              refine ⟨i + 1, by omega, by go_num, ?_, HSI.out.set HK9.out _, ?_⟩
                              · exact HPI.out.turn (R := fun x => x = g9) ((Turns.refl (fun x => x = g9) _).setCell (a := ⟨g9, o9 + i, none⟩) (fun _ => rfl) _) (fun x hx => by have := HK.out _ HK9.out; subst hx; omega) (fun x hx => by have := HK.out _ HK9.out; subst hx; exact ⟨fun h => by have := HGG.out _ h; omega, fun h => by have := HAA.out _ h; omega⟩)
                              · rw [World.cell?_setCell_other _ _ _ _ (fun e => by injection e with e; subst e; exact HNG.out HK9.out)]; exact d7
                            case measure => simp [intOf]; omega
                          · go_wp2_with fail
                            go_roundw
                            case rel => exact ⟨k + 1, by omega, by go_num, HPI.out, HSI.out⟩
                            case measure => simp [intOf]; omega
                      · go_wp2_with fail
                        go_roundw
                        case rel => exact ⟨j + 1, by omega, by go_num, _, _, _, HWF'.out, HPK.out⟩
                        case measure => simp [intOf]; omega
              · clear hj
                obtain ⟨l, hl⟩ : ∃ l, l = L.length := ⟨_, rfl⟩
                obtain ⟨rp, rc, hrn⟩ := HPX.out.ref
                have hrw := hrn.rw_
                rw [← hl] at hrw
                have hRS := hrn.rs
                have HL := Calm.hid hl
                have HRW := Calm.hid hrw
                have HRS := Calm.hid hRS
                have k1 : ∀ z : KeptR (fun _ => False) wr, z.world.cell? ⟨w1.heap.size + 1, 1, none⟩ = some (.slice rp l rc) := fun z => (z.turns.cell hrw.lt id).trans (hrw.cell (i := 1) rfl)
                have hwr : w1.heap.size ≤ wr.heap.size := HPX.out.turns.size
                clear hrn hrw hRS
                clear hl
                go_wp2_with fail
                refine region_lr (fun _ => False) [true, false, true, true, true, true, false, false, false, false, false] (by kernel_rfl) (by kernel_rfl) (by kernel_rfl) ?_
                simp only [heads, tails]
                repeat (go_big_quiet_step (fail))
                refine wpQuiet_nil ?_
                have hbd : Below wr.heap.size wr wr.drew := ⟨rfl, rfl, rfl, Nat.le_refl _, fun _ _ => rfl⟩
                have HPD := Calm.hid (HPX.out.below hbd)
                clear hbd
                refine wpL_step ?_
                go_wp2_with fail
                refine (letters_any G w1.heap.size nn L _ HPD.out.net HWF.out.1).mono ?_
                rintro e w5 ⟨p3, c3, rfl, hs, hb⟩
                have HT5 : Hid (Turns (fun _ => False) wr w5) := (Turns.refl (fun _ => False) wr).drew.trans (Turns.of_below hb)
                have HS5 := Calm.hid hs
                have HRS5 : Hid (RS w5 rp rc L) := (HRS.out.below (w' := wr.drew) ⟨rfl, rfl, rfl, Nat.le_refl _, fun _ _ => rfl⟩).below hb
                rw [← HL.out]
                clear hs hb
                go_wp2
                refine ⟨⟨⟨w5, HT5.out⟩, rfl⟩, ?_⟩
                refine wpL_step ?_
                go_wp2_with fail
                refine (same_any _ p3 rp l c3 rc L w5 HS5.out HRS5.out HL.out).mono ?_
                rintro e w6 ⟨rfl, hb⟩
                have HT6 : Hid (Turns (fun _ => False) wr w6) := HT5.out.trans (Turns.of_below hb)
                clear hb
                go_wp2
                refine ⟨⟨⟨w6, HT6.out⟩, rfl⟩, ?_⟩
                refine wpL_step ?_
                go_wp2
                refine ⟨⟨⟨w6, HT6.out⟩, rfl⟩, ?_⟩
                refine wpL_step ?_
                go_wp2_with fail
                refine (wakes_any w6).mono ?_
                rintro e w7 ⟨rfl, hb⟩
                have HT7 : Hid (Turns (fun _ => False) wr w7) := HT6.out.trans (Turns.of_below (hb.mono (Nat.le_refl _)))
                clear hb
                go_wp2
                refine ⟨⟨⟨w7, HT7.out⟩, rfl⟩, ?_⟩
                refine wpL_step ?_
                go_wp2
                refine ⟨⟨⟨w7, HT7.out⟩, rfl⟩, ?_⟩
                refine wpL_step ?_
                go_wp2
                refine wpL_nil ?_
                go_wp2_with fail
                go_ret
                exact ⟨rfl, (HPX.out.turns.trans (HT7.out.mono fun _ _ h => h.elim)).below (fun b hb h => by omega)⟩
end Go.Proofs.Ytfhjpnhchggljaa
