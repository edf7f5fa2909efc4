/-
  NetKeeps' walk.
-/
import Derived.Test.YtfhjpnhchggljaaKeepL
import Derived.Test.YtfhjpnhchggljaaOrderW
namespace Go.Proofs.Ytfhjpnhchggljaa
open Go.RowKit Go.Sha Go.Calm
attribute [local go_sem] Oper.semAt_some
theorem Try.info3 : (Try.prog.info? 3).map (fun i => (i.zero, i.size, i.bytes)) = some (some (.int .i64 0), 1, 8) := by kernel_rfl
theorem LS.of_row {w : World} {F K : Nat → Prop} {b : Nat} {cs : List Value} {p : Option Addr} {n c : Nat} {L : List (Nat × List UInt8)} (h : RowOf w F b 2 cs p n c) (hn : n = L.length) (hl : LV w K cs L) : LS w (fun _ => True) p c L := by
  subst hn
  refine ⟨h.le, h.max, fun e => ⟨List.eq_nil_of_length_eq_zero (h.nil e).1, (h.nil e).2⟩, cs, hl.mono fun _ _ _ => trivial, fun ad ha => ?_⟩
  obtain ⟨g, rfl, h2, _, h4, h5, _⟩ := h.at_ ad ha
  exact ⟨g, 0, rfl, h4, trivial, fun j u hu => by rw [Nat.zero_add]; exact h5 j u hu⟩
/-- The net, the row of what was sent, and the row of what is left, each apart from the others. -/
structure KX (w : World) (n : Nat) (L S : List (Nat × List UInt8)) (ls : List Nat) (ps : Option Addr) (cs : Nat) (pl : Option Addr) (cl : Nat) (G : Nat → Prop) (scs : List Value) (wr : World) : Prop where
  turns : Turns (fun k => w.heap.size ≤ k) w wr
  G1 : ∀ k, G k → w.heap.size ≤ k ∧ k < wr.heap.size
  net : Net wr G w.heap.size n L
  sent : RowOf wr (fun k => w.heap.size ≤ k ∧ ¬ G k) w.heap.size 2 scs ps S.length cs
  lv : LV wr (fun k => k < w.heap.size) scs S
  left : RowOf wr (fun k => w.heap.size ≤ k ∧ ¬ G k ∧ ¬ rowBlk ps k) w.heap.size 1 (ls.map iv) pl ls.length cl
section
variable {w wr w' : World} {n : Nat} {L L' S : List (Nat × List UInt8)} {ls : List Nat} {ps pl : Option Addr} {cs cl : Nat} {G : Nat → Prop} {scs : List Value}
theorem KX.below (h : KX w n L S ls ps cs pl cl G scs wr) (k : Below wr.heap.size wr w') : KX w n L S ls ps cs pl cl G scs w' := by
  have t : Turns (fun _ => False) wr w' := Turns.of_below k
  refine ⟨h.turns.trans (Turns.of_below k), fun x hx => ⟨(h.G1 x hx).1, Nat.lt_of_lt_of_le (h.G1 x hx).2 k.size⟩, h.net.turns t (fun _ _ h => h), h.sent.turns t (fun _ _ h => h), h.lv.turns t (fun _ _ h => h), h.left.turns t (fun _ _ h => h)⟩
theorem KX.op (h : KX w n L S ls ps cs pl cl G scs wr) (t : Turns G wr w') (k : Net w' (fun x => G x ∨ wr.heap.size ≤ x) w.heap.size n L') : KX w n L' S ls ps cs pl cl (fun x => G x ∨ wr.heap.size ≤ x ∧ x < w'.heap.size) scs w' := by
  have hs := t.size
  have hw := h.turns.size
  refine ⟨h.turns.trans (t.mono fun x _ hx => (h.G1 x hx).1), fun x hx => hx.elim (fun hx => ⟨(h.G1 x hx).1, Nat.lt_of_lt_of_le (h.G1 x hx).2 hs⟩) (fun hx => ⟨by omega, hx.2⟩), k.mono fun x hx h => h.elim .inl fun h => .inr ⟨h, hx⟩, ?_, ?_, ?_⟩
  · exact (h.sent.mono (F' := fun x => w.heap.size ≤ x ∧ ¬ (G x ∨ wr.heap.size ≤ x ∧ x < w'.heap.size)) fun x hx hf => ⟨hf.1, fun hg => hg.elim hf.2 (fun hg => by omega)⟩).turns t (fun g hg => (h.sent.blk hg).1.2)
  · exact h.lv.turns t (fun x hx hg => by have := (h.G1 x hg).1; omega)
  · exact (h.left.mono (F' := fun x => w.heap.size ≤ x ∧ ¬ (G x ∨ wr.heap.size ≤ x ∧ x < w'.heap.size) ∧ ¬ rowBlk ps x) fun x hx hf => ⟨hf.1, fun hg => hg.elim hf.2.1 (fun hg => by omega), hf.2.2⟩).turns t (fun g hg => (h.left.blk hg).1.2.1)
theorem KX.sent_more (h : KX w n L S ls ps cs pl cl G scs wr) {x : Nat × List UInt8} {news : List Value} {p' : Option Addr} {c' : Nat} (hrow : RowOf w' (fun k => w.heap.size ≤ k ∧ ¬ G k) w.heap.size 2 (scs ++ news) p' (S.length + 1) c') (ht : Turns (rowBlk ps) wr w')
    (hp : ∀ k, k < wr.heap.size → rowBlk p' k → rowBlk ps k) (hlv : LV wr (fun k => k < w.heap.size) news [x]) : KX w n L (S ++ [x]) ls p' c' pl cl G (scs ++ news) w' := by
  have hs := ht.size
  have hw := h.turns.size
  have hbl : ∀ k, rowBlk ps k → w.heap.size ≤ k ∧ ¬ G k := fun k hk => (h.sent.blk hk).1
  refine ⟨h.turns.trans (ht.mono fun x _ hx => (hbl x hx).1), fun x hx => ⟨(h.G1 x hx).1, Nat.lt_of_lt_of_le (h.G1 x hx).2 hs⟩, h.net.turns ht (fun x hx hr => (hbl x hr).2 hx), ?_, ?_, ?_⟩
  · rw [List.length_append]; exact hrow
  · exact LV.append (h.lv.turns ht (fun x hx hr => by have := (hbl x hr).1; omega)) (hlv.turns ht (fun x hx hr => by have := (hbl x hr).1; omega))
  · exact (h.left.mono (F' := fun k => w.heap.size ≤ k ∧ ¬ G k ∧ ¬ rowBlk p' k) fun k hk hf => ⟨hf.1, hf.2.1, fun hr => hf.2.2 (hp k hk hr)⟩).turns ht (fun g hg => (h.left.blk hg).1.2.2)
theorem KX.left_put (h : KX w n L S ls ps cs pl cl G scs wr) {ls' : List Nat} {p' : Option Addr} {c' : Nat} (hrow : RowOf w' (fun k => w.heap.size ≤ k ∧ ¬ G k ∧ ¬ rowBlk ps k) w.heap.size 1 (ls'.map iv) p' ls'.length c') (ht : Turns (rowBlk pl) wr w') : KX w n L S ls' ps cs p' c' G scs w' := by
  have hs := ht.size
  have hbl : ∀ k, rowBlk pl k → w.heap.size ≤ k ∧ ¬ G k ∧ ¬ rowBlk ps k := fun k hk => (h.left.blk hk).1
  refine ⟨h.turns.trans (ht.mono fun x _ hx => (hbl x hx).1), fun x hx => ⟨(h.G1 x hx).1, Nat.lt_of_lt_of_le (h.G1 x hx).2 hs⟩, h.net.turns ht (fun x hx hr => (hbl x hr).2.1 hx), ?_, ?_, hrow⟩
  · exact h.sent.turns ht (fun g hg hr => (hbl g hr).2.2 hg)
  · exact h.lv.turns ht (fun x hx hr => by have := (hbl x hr).1; omega)
end
theorem doubleL_in {n : Nat} {L : List (Nat × List UInt8)} {i : Int} (h : doubleE n L i = 0) : inR L i ∧ ∃ x, L[i.toNat]? = some x ∧ doubleL n L i = L ++ [x] := by
  unfold doubleE at h
  by_cases hi : inR L i
  · obtain ⟨x, hx⟩ := getElem?_of L (i := i.toNat) (by have := hi.1; have := hi.2; omega)
    have hg : L.getD i.toNat (0, []) = x := by simp [List.getD_eq_getElem?_getD, hx]
    rw [if_pos hi, hg] at h
    refine ⟨hi, x, hx, ?_⟩
    unfold doubleL sendL
    rw [if_pos hi, hg, if_pos (by omega)]
  · rw [if_neg hi] at h; omega
theorem holdL_in {L : List (Nat × List UInt8)} {r : Nat} {x : Nat × List UInt8} (h : inR L r) (hx : L[r]? = some x) : holdL L r = L.eraseIdx r ++ [x] := by
  have hg : L.getD (r : Int).toNat (0, []) = x := by simp [List.getD_eq_getElem?_getD, hx]
  unfold holdL
  rw [if_pos h, hg, Int.toNat_natCast]
/-- What the loop of NetKeeps holds. -/
structure KL (w : World) (n j : Nat) (S : List (Nat × List UInt8)) (ls : List Nat) (ps : Option Addr) (cs : Nat) (pl : Option Addr) (cl : Nat) (wr : World) : Prop where
  sz : S.length = ls.length
  len : S.length ≤ j
  ex : ∃ L G scs, L.length ≤ 4096 ∧ L.Perm (expl S ls) ∧ KX w n L S ls ps cs pl cl G scs wr
theorem KL.of {w wr : World} {n j : Nat} {L S : List (Nat × List UInt8)} {ls : List Nat} {ps pl : Option Addr} {cs cl : Nat} {G : Nat → Prop} {scs : List Value} (h1 : S.length = ls.length) (h2 : S.length ≤ j) (h3 : L.length ≤ 4096) (h4 : L.Perm (expl S ls)) (h5 : KX w n L S ls ps cs pl cl G scs wr) : KL w n j S ls ps cs pl cl wr :=
  ⟨h1, h2, L, G, scs, h3, h4, h5⟩
set_option maxRecDepth 100000 in
set_option maxHeartbeats 2000000 in
theorem keeps_walk (n : Int) (p : Option Addr) (m c : Nat) (xs : List AA) (w : World) (h : ActsOf w p m c xs) :
    Calls Try.prog 5 #[.int .i64 n, .slice p m c] w fun en w' => en = .returned (.bool true) ∧ Below w.heap.size w w' := by
  obtain ⟨i0, hi0, hz0, hz1, hz2⟩ := info_parts Try.info36
  obtain ⟨i1, hi1, hy0, hy1, hy2⟩ := info_parts Try.info3
  have H := Calm.hid h
  clear h
  go_enter Try.func5, Try.ntmps5
  go_wp2_with fail
  refine (great_any p m c xs w H.out).mono ?_
  rintro e w1 ⟨rfl, rfl | ⟨rfl, hm, _⟩⟩
  · go_wp2_with fail
    refine (wakes_any w1).mono ?_
    rintro e w2 ⟨rfl, hb⟩
    have HB := Calm.hid hb
    clear hb
    go_wp2
    go_ret
    exact ⟨rfl, HB.out⟩
  · by_cases hn : n < 2 ∨ 8 < n
    · go_wp2_with fail
      refine (new_no n hn w1).mono ?_
      rintro e w2 ⟨rfl, rfl⟩
      go_wp2_with fail
      refine (wakes_any w2).mono ?_
      rintro e w3 ⟨rfl, hb⟩
      have HB := Calm.hid hb
      clear hb
      go_wp2
      go_ret
      exact ⟨rfl, HB.out⟩
    · obtain ⟨nn, rfl⟩ : ∃ nn : Nat, n = nn := ⟨n.toNat, by omega⟩
      go_wp2_with fail
      refine (new_yes nn (by omega) (by omega) w1).mono ?_
      rintro e w2 ⟨rfl, hw2⟩
      have hKL : KL w1 nn 0 [] [] none 0 none 0 w2 := by
        rw [hw2]
        refine ⟨rfl, Nat.le_refl _, [], fun k => w1.heap.size ≤ k ∧ k < w1.heap.size + 1, [], by simp, by simp [expl], (Turns.refl _ _).alloc _, fun k hk => by simpa using hk, (net_new w1 nn (by omega)).mono fun k hk h => ⟨h, by simpa using hk⟩, RowOf.none _ _ _ _, trivial, RowOf.none _ _ _ _⟩
      have HKL := Calm.hid hKL
      clear hKL hw2
      go_wp2_with fail
      go_loopw [7, 8, 9] (fun ts tl ct wr => ∃ (j : Nat) (S : List (Nat × List UInt8)) (ls : List Nat) (ps : Option Addr) (cs : Nat) (pl : Option Addr) (cl : Nat), j ≤ m ∧ ct = .int .i64 j ∧ ts = .slice ps S.length cs ∧ tl = .slice pl S.length cl ∧ KL w1 nn j S ls ps cs pl cl wr) (fun _ _ ct _ => m - (intOf ct).toNat)
      case atStart => exact ⟨0, [], [], none, 0, none, 0, by omega, rfl, rfl, rfl, HKL.out⟩
      case round =>
        obtain ⟨j, S, ls, ps, cs, pl, cl, hj, rfl, rfl, rfl, hkl⟩ := hrel
        have HSZ := Calm.hid hkl.sz
        have hlen := hkl.len
        obtain ⟨L, G, scs, hL, hperm, hx⟩ := hkl.ex
        obtain ⟨ms, hms⟩ : ∃ ms, ms = S.length := ⟨_, rfl⟩
        rw [← hms]
        have HMS := Calm.hid hms
        rw [← hms] at hlen
        have HL := Calm.hid hL
        have HP := Calm.hid hperm
        have HX := Calm.hid hx
        clear hkl hL hperm hx
        clear hms
        by_cases hlt : j < m
        · obtain ⟨l, hl⟩ : ∃ l, l = L.length := ⟨_, rfl⟩
          have hl4 : l ≤ 4096 := by have := HL.out; omega
          have HLL := Calm.hid hl
          clear hl
          have hbel : Below w1.heap.size w1 wr := HX.out.turns.below (fun _ h => by omega)
          obtain ⟨g, o, a, rfl, ha, hmem, d0, d1, d2, d3⟩ := (H.out.below hbel).get hlt
          have HOK := Calm.hid (H.out.ok a hmem)
          have hto := HOK.out.to
          clear hbel ha hmem
          obtain ⟨wa, hwa⟩ : ∃ wa, wa = wr.alloc (.cells #[.int .i64 a.d, .int .i64 a.i, .int .u8 a.to, .slice a.p a.n a.c] 34) := ⟨_, rfl⟩
          have ra : Rw wa wr.heap.size a.cells 34 := by rw [hwa]; exact Rw.new wr _ 34
          have hba : Below wr.heap.size wr wa := by rw [hwa]; exact (Below.refl _ _).alloc (Nat.le_refl _) _
          have HWA := Calm.hid hwa
          have HRA := Calm.hid ra
          have HXA := Calm.hid (HX.out.below hba)
          have hsa : wr.heap.size < wa.heap.size := ra.lt
          clear hba ra
          clear hwa
          go_wp2_with fail
          rw [← HWA.out]
          refine (letters_any G w1.heap.size nn L wa HXA.out.net HL.out).mono ?_
          rintro e w3 ⟨p1, kc1, rfl, hls, hb⟩
          rw [← HLL.out]
          have HX3 := Calm.hid (HXA.out.below hb)
          have HR3 := Calm.hid (HRA.out.below hb)
          have hs3 := hb.size
          have hG3 : Hid (∀ x, G x → x < wr.heap.size) := fun x hx => (HX.out.G1 x hx).2
          have HS3 := Calm.hid (hls.mono (K' := fun k => wa.heap.size ≤ k ∧ k < w3.heap.size) fun k hk h => ⟨h, hk⟩)
          clear hls hb HXA HRA
          clear d0 d1 d2 d3
          have c0 := HR3.out.cell (i := 0) rfl
          by_cases hd0 : a.d = 0
          case' pos =>
            rw [hd0] at c0
            have c2 := HR3.out.cell (i := 2) rfl
            have c3 := HR3.out.cell (i := 3) rfl
            clear hd0
            go_wp2_with fail
            refine (send_any G w1.heap.size nn L a.to a.p a.n a.c w3 HX3.out.net hto a.b (HOK.out.b.below (HX3.out.turns.below (fun _ h => by omega)))).mono ?_
            rintro e w4 ⟨rfl, ht, hn4⟩
            obtain ⟨G4, hG4⟩ : ∃ G4 : Nat → Prop, G4 = fun x => G x ∨ w3.heap.size ≤ x ∧ x < w4.heap.size := ⟨_, rfl⟩
            have hx4 := HX3.out.op ht hn4
            rw [← hG4] at hx4
            have HX4 := Calm.hid hx4
            have HG4 := Calm.hid hG4
            clear hx4 hG4
            have hs34 := ht.size
            have HR4 := Calm.hid (HR3.out.turns ht (fun h => by have := hG3.out _ h; omega))
            clear ht hn4 c0 c2 c3
            by_cases hz : sendE nn L a.to a.b = 0
            case' neg =>
              have hz' : (((sendE nn L a.to a.b : Nat) : Int) == 0) = false := by simp; omega
              have hsl : sendL nn L a.to a.b = L := by unfold sendL; rw [if_neg hz]
              have HSL := Calm.hid hsl
              clear hz hsl
              go_wp2_with fail
              go_roundw
              case rel =>
                have hx := HX4.out
                rw [HSL.out] at hx
                exact ⟨j + 1, S, ls, ps, cs, pl, cl, by omega, by go_num, by rw [HMS.out], by rw [HMS.out], KL.of HSZ.out (by have := HMS.out; omega) HL.out HP.out hx⟩
              case measure => simp [intOf]; omega
            case' pos =>
              have hsl : sendL nn L a.to a.b = L ++ [(a.to, a.b)] := by unfold sendL; rw [if_pos hz]
              have hl1 : (sendL nn L a.to a.b).length ≤ 4096 := sendL_le HL.out
              have hb1 : a.b.length ≤ 65536 := by
                unfold sendE at hz
                split at hz
                · omega
                · split at hz
                  · omega
                  · split at hz <;> omega
              have HSL := Calm.hid hsl
              have HL1 := Calm.hid hl1
              rw [hz]
              clear hz hsl hl1
              have c2 := HR4.out.cell (i := 2) rfl
              have c3 := HR4.out.cell (i := 3) rfl
              obtain ⟨w5, hw5⟩ : ∃ w5, w5 = w4.alloc (.cells #[.int .u8 a.to, .slice a.p a.n a.c] 36) := ⟨_, rfl⟩
              have hb5 : Below w4.heap.size w4 w5 := by rw [hw5]; exact (Below.refl _ _).alloc (Nat.le_refl _) _
              have r5 : Rw w5 w4.heap.size [.int .u8 a.to, .slice a.p a.n a.c] 36 := by rw [hw5]; exact Rw.new w4 _ 36
              have HX5 := Calm.hid (HX4.out.below hb5)
              have HR5 := Calm.hid r5
              have HW5 := Calm.hid hw5
              have hs5 := hb5.size
              have hs4 := (HX4.out.turns).size
              clear hb5 r5
              clear hw5
              obtain ⟨FS, hFS⟩ : ∃ FS : Nat → Prop, FS = fun k => w1.heap.size ≤ k ∧ ¬ G4 k := ⟨_, rfl⟩
              have HFS := Calm.hid hFS
              clear hFS
              go_wp2_with (at_builtin; rw [← HW5.out]; refine wpList_append_row rfl (.tmp 109) (.tmp 115) 44 rfl 36 i0 _ 2 32 Try.underlying44 hi0 hz0 hz1 hz2 rfl (by decide) FS FS w1.heap.size ms cs ps scs rfl ?_ ?_ ?_ ?_ ⟨w4.heap.size, 0, none⟩ 1 1 [.int .u8 a.to, .slice a.p a.n a.c] rfl rfl ?_ ?_ ?_ ?_ ?_)
              · have := HX5.out.sent; rwa [← HMS.out, ← HFS.out] at this
              · exact fun k _ h => h
              · intro k hk
                rw [HFS.out, HG4.out]
                refine ⟨by omega, fun h => h.elim (fun h => by have := hG3.out k h; omega) (fun h => by omega)⟩
              · exact HX5.out.net.lt
              · intro j u hu; rw [add_plain, Nat.zero_add]; exact HR5.out.cell hu
              · exact one2 _ _ rfl rfl
              · simp only [maxLen]; omega
              · omega
              intro p6 c6 w6 hrow ht6 hp6
              have hnew : LV w5 (fun k => k < w1.heap.size) [.int .u8 a.to, .slice a.p a.n a.c] [(a.to, a.b)] := by
                have hlen' : a.n = a.b.length := HOK.out.b.len.symm
                have hb' := HOK.out.b.below (HX5.out.turns.below (fun _ h => by omega))
                rw [hlen'] at hb' ⊢
                refine LV.one (x := (a.to, a.b)) hto hb1 hb' fun ad ha h0 => ?_
                have hbb := HOK.out.b
                rw [hlen'] at hbb
                have := World.block_lt_of_cell? w1 _ (hbb.at_ ad ha 0 h0)
                have e : (ad.add 0).block = ad.block := by unfold Addr.add; split <;> rfl
                rwa [e] at this
              have HX6 := Calm.hid (HX5.out.sent_more (x := (a.to, a.b)) (by rw [← HMS.out, ← HFS.out]; exact hrow) ht6 hp6 hnew)
              have hs6 := ht6.size
              clear hnew hrow ht6 hp6
              obtain ⟨w7, hw7⟩ : ∃ w7, w7 = w6.alloc (.cells #[.int .i64 1] 3) := ⟨_, rfl⟩
              have hb7 : Below w6.heap.size w6 w7 := by rw [hw7]; exact (Below.refl _ _).alloc (Nat.le_refl _) _
              have r7 : Rw w7 w6.heap.size [.int .i64 1] 3 := by rw [hw7]; exact Rw.new w6 _ 3
              have HX7 := Calm.hid (HX6.out.below hb7)
              have HR7 := Calm.hid r7
              have HW7 := Calm.hid hw7
              have hs7 := hb7.size
              clear hb7 r7 HX5 HX4
              clear hw7
              obtain ⟨FL, hFL⟩ : ∃ FL : Nat → Prop, FL = fun k => w1.heap.size ≤ k ∧ ¬ G4 k ∧ ¬ rowBlk p6 k := ⟨_, rfl⟩
              have HFL := Calm.hid hFL
              clear hFL
              go_wp2_with (at_builtin; rw [← HW7.out]; refine wpList_append_row rfl (.tmp 117) (.tmp 118) 53 rfl 3 i1 _ 1 8 Try.underlying53 hi1 hy0 hy1 hy2 rfl (by decide) FL FL w1.heap.size ms cl pl (ls.map iv) rfl ?_ ?_ ?_ ?_ ⟨w6.heap.size, 0, none⟩ 1 1 [.int .i64 1] rfl rfl ?_ ?_ ?_ ?_ ?_)
              · have := HX7.out.left; rwa [← HSZ.out, ← HMS.out, ← HFL.out] at this
              · exact fun k _ h => h
              · intro k hk
                rw [HFL.out, HG4.out]
                refine ⟨by omega, fun h => h.elim (fun h => by have := hG3.out k h; omega) (fun h => by omega), fun h => by have := (HX7.out.sent.blk h).2.2; omega⟩
              · exact HX7.out.net.lt
              · intro j u hu; rw [add_plain, Nat.zero_add]; exact HR7.out.cell hu
              · intro u hu; simp at hu; subst hu; rfl
              · simp only [maxLen]; omega
              · omega
              intro p8 c8 w8 hrow ht8 hp8
              have HX8 := Calm.hid (HX7.out.left_put (ls' := ls ++ [1]) (by rw [List.map_append, List.length_append, ← HSZ.out, ← HMS.out, ← HFL.out]; exact hrow) ht8)
              clear hrow ht8 hp8
              go_wp2_with fail
              go_roundw
              case rel =>
                have hx := HX8.out
                have hl1 := HL1.out
                rw [HSL.out] at hx hl1
                exact ⟨j + 1, S ++ [(a.to, a.b)], ls ++ [1], p6, c6, p8, c8, by omega, by go_num, by rw [HMS.out, List.length_append]; rfl, by rw [HMS.out, List.length_append]; rfl, KL.of (by rw [List.length_append, List.length_append, HSZ.out]; rfl) (by rw [List.length_append]; have := HMS.out; simp; omega) hl1 (keep_send HP.out HSZ.out) hx⟩
              case measure => simp [intOf]; omega
          case' neg =>
            have HD0 := Calm.hid hd0
            have c1 := HR3.out.cell (i := 1) rfl
            have hai := HOK.out.i
            have hms5 : ∀ k ∈ ls, k ≤ 5000 := fun k hk => by
              have h1 := le_sum hk
              have h2 := keep_small HP.out HSZ.out
              have h3 := HL.out
              omega
            have HMS5 := Calm.hid hms5
            clear hd0 hms5
            by_cases h12 : a.d = 1 ∨ a.d = 2
            case' pos =>
              by_cases hin : inR L a.i
              case' neg =>
                have HIN := Calm.hid hin
                rcases h12 with h12 | h12
                all_goals
                  rw [h12] at c0
                  clear h12 hin
                  go_wp2_with fail
                  refine (take_out G w1.heap.size nn L a.i w3 HX3.out.net (by have := HIN.out; unfold inR at this; omega) HOK.out.i).mono ?_
                  rintro e w4 ⟨rfl, hb⟩
                  have HX4 := Calm.hid (HX3.out.below hb)
                  clear hb c0 c1
                  unfold noLetter
                  go_wp2_with fail
                  go_roundw
                  case rel => exact ⟨j + 1, S, ls, ps, cs, pl, cl, by omega, by go_num, by rw [HMS.out], by rw [HMS.out], KL.of HSZ.out (by have := HMS.out; omega) HL.out HP.out (HX4.out.below ((Below.refl _ _).alloc (Nat.le_refl _) _))⟩
                  case measure => simp [intOf]; omega
              case' pos =>
                obtain ⟨r, hr⟩ : ∃ r : Nat, a.i = r := ⟨a.i.toNat, by have := hin.1; omega⟩
                rw [hr] at hin c1
                obtain ⟨x, hx⟩ := getElem?_of L (i := r) (by have := hin.2; omega)
                have HXX := Calm.hid hx
                clear hin hx hr
                rcases h12 with h12 | h12
                all_goals
                  rw [h12] at c0
                  clear h12
                  go_wp2_with fail
                  refine (take_in G w1.heap.size nn L r x w3 HX3.out.net HL.out HXX.out).mono ?_
                  rintro e w4 ⟨q, cq, rfl, ht, p', c', cs', hn4, hlv⟩
                  obtain ⟨G4, hG4⟩ : ∃ G4 : Nat → Prop, G4 = fun x => G x ∨ w3.heap.size ≤ x ∧ x < w4.heap.size := ⟨_, rfl⟩
                  have hx4 := HX3.out.op ht hn4.net
                  rw [← hG4] at hx4
                  obtain ⟨w5, hw5⟩ : ∃ w5, w5 = w4.alloc (.cells #[.int .u8 x.1, .slice q x.2.length cq] 36) := ⟨_, rfl⟩
                  have hb5 : Below w4.heap.size w4 w5 := by rw [hw5]; exact (Below.refl _ _).alloc (Nat.le_refl _) _
                  have r5 : Rw w5 w4.heap.size [.int .u8 x.1, .slice q x.2.length cq] 36 := by rw [hw5]; exact Rw.new w4 _ 36
                  have hby : BytesOf w4 q x.2.length cq x.2 := by obtain ⟨_, _, _, p', c', e, h, _⟩ := hlv.1; cases e; exact h
                  have HX5 := Calm.hid (hx4.below hb5)
                  have HBY := Calm.hid (hby.below hb5)
                  have hx256 : x.1 < 256 := hlv.1.2.1
                  have d0 := r5.cell (i := 0) rfl
                  have d1 := r5.cell (i := 1) rfl
                  have HW5 := Calm.hid hw5
                  rw [hw5] at d0 d1
                  clear ht hn4 hlv hG4 hx4 hb5 r5 hby c0 c1
                  clear hw5
                  go_wp2_with fail
                  rw [← HW5.out]
                  refine (spend_any (fun _ => True) (fun k => w1.heap.size ≤ k ∧ ¬ G4 k ∧ ¬ rowBlk ps k) w1.heap.size ps pl ms cs cl S ls x q cq (-1) (fun k => k) w5 (LS.of_row HX5.out.sent rfl HX5.out.lv) (by have := HX5.out.left; rwa [← HSZ.out, ← HMS.out] at this) HMS.out hx256 HBY.out (fun k => by simp; omega) HMS5.out (by omega) (keep_hit HP.out HXX.out)).mono ?_
                  rintro e w6 ⟨rfl, ht6, j0, k0, hj1, hj2, hrow⟩
                  have HX6 := Calm.hid (HX5.out.left_put (ls' := ls.set j0 k0) (by rw [List.length_set, ← HSZ.out, ← HMS.out]; exact hrow) ht6)
                  have HJ1 := Calm.hid hj1
                  have HJ2 := Calm.hid hj2
                  clear ht6 hrow hj1 hj2
                  go_wp2_with fail
                  go_roundw
                  case rel => exact ⟨j + 1, S, ls.set j0 k0, ps, cs, pl, cl, by omega, by go_num, by rw [HMS.out], by rw [HMS.out], KL.of (by rw [List.length_set]; exact HSZ.out) (by have := HMS.out; omega) (by rw [List.length_eraseIdx]; have := HL.out; split <;> omega) (keep_take HP.out HXX.out HJ1.out HJ2.out) HX6.out⟩
                  case measure => simp [intOf]; omega
            case' neg =>
              have hd1 : ((a.d : Int) == 1) = false := by simp; omega
              have hd2 : ((a.d : Int) == 2) = false := by simp; omega
              have hd0 : ((a.d : Int) == 0) = false := by simp [HD0.out]
              clear h12
              have hGK : Hid (∀ x, wa.heap.size ≤ x ∧ x < w3.heap.size → ¬ G x) := fun x hx hg => by have := hG3.out x hg; omega
              by_cases hd3 : a.d = 3
              case' pos =>
                rw [hd3] at c0
                clear hd0 hd1 hd2 hd3
                go_wp2_with fail
                refine (double_any G w1.heap.size nn L a.i w3 HX3.out.net HOK.out.i).mono ?_
                rintro e w4 ⟨rfl, ht, hn4⟩
                obtain ⟨G4, hG4⟩ : ∃ G4 : Nat → Prop, G4 = fun x => G x ∨ w3.heap.size ≤ x ∧ x < w4.heap.size := ⟨_, rfl⟩
                have hx4 := HX3.out.op ht hn4
                rw [← hG4] at hx4
                have HX4 := Calm.hid hx4
                have HS4 := Calm.hid (HS3.out.turns ht hGK.out)
                have HR4 := Calm.hid (HR3.out.turns ht (fun h => by have := hG3.out _ h; omega))
                clear ht hn4 hG4 hx4 c0 c1
                by_cases hz : doubleE nn L a.i = 0
                case' neg =>
                  have hz' : ((doubleE nn L a.i : Int) == 0) = false := by simp [hz]
                  have HDL := Calm.hid (doubleL_ne hz)
                  clear hz
                  go_wp2_with fail
                  go_roundw
                  case rel =>
                    have hx := HX4.out
                    rw [HDL.out] at hx
                    exact ⟨j + 1, S, ls, ps, cs, pl, cl, by omega, by go_num, by rw [HMS.out], by rw [HMS.out], KL.of HSZ.out (by have := HMS.out; omega) HL.out HP.out hx⟩
                  case measure => simp [intOf]; omega
                case' pos =>
                  obtain ⟨hin, x, hx, hdl⟩ := doubleL_in hz
                  have hdle : (doubleL nn L a.i).length ≤ 4096 := doubleL_le HL.out
                  obtain ⟨r, hr⟩ : ∃ r : Nat, a.i = r := ⟨a.i.toNat, by have := hin.1; omega⟩
                  have c1 := HR4.out.cell (i := 1) rfl
                  rw [hr] at hin c1 hx
                  rw [Int.toNat_natCast] at hx
                  rw [hz]
                  have hrl : r < l := by have := hin.2; have := HLL.out; omega
                  obtain ⟨g1, o1, q, cq, y, hp1, hy, d0, d1, hby, hx256, _⟩ := HS4.out.get (i := r) (by have := HLL.out; omega)
                  obtain rfl : x = y := by rw [hx] at hy; cases hy; rfl
                  subst hp1
                  have hc1 : l ≤ kc1 := by have := HS4.out.le; have := HLL.out; omega
                  have HXX := Calm.hid hx
                  have HDL := Calm.hid hdl
                  have HDLE := Calm.hid hdle
                  have HBY := Calm.hid hby
                  clear hz hin hx hy hdl hdle hr hby
                  go_wp2_with fail
                  refine (spend_any (fun _ => True) (fun k => w1.heap.size ≤ k ∧ ¬ G4 k ∧ ¬ rowBlk ps k) w1.heap.size ps pl ms cs cl S ls x q cq 1 (fun k => k + 2) w4 (LS.of_row HX4.out.sent rfl HX4.out.lv) (by have := HX4.out.left; rwa [← HSZ.out, ← HMS.out] at this) HMS.out hx256 HBY.out (fun k => by simp; omega) HMS5.out (by omega) (keep_hit HP.out HXX.out)).mono ?_
                  rintro e w6 ⟨rfl, ht6, j0, k0, hj1, hj2, hrow⟩
                  have HX6 := Calm.hid (HX4.out.left_put (ls' := ls.set j0 (k0 + 2)) (by rw [List.length_set, ← HSZ.out, ← HMS.out]; exact hrow) ht6)
                  have HJ1 := Calm.hid hj1
                  have HJ2 := Calm.hid hj2
                  clear ht6 hrow hj1 hj2
                  go_wp2_with fail
                  go_roundw
                  case rel =>
                    have hx := HX6.out
                    have hle := HDLE.out
                    rw [HDL.out] at hx hle
                    exact ⟨j + 1, S, ls.set j0 (k0 + 2), ps, cs, pl, cl, by omega, by go_num, by rw [HMS.out], by rw [HMS.out], KL.of (by rw [List.length_set]; exact HSZ.out) (by have := HMS.out; omega) hle (keep_double HP.out HJ1.out HJ2.out) hx⟩
                  case measure => simp [intOf]; omega
              case' neg =>
                have hd3' : ((a.d : Int) == 3) = false := by simp [hd3]
                clear hd3
                go_wp2_with fail
                refine (hold_any G w1.heap.size nn L a.i w3 HX3.out.net HL.out HOK.out.i).mono ?_
                rintro e w4 ⟨rfl, ht, hn4⟩
                obtain ⟨G4, hG4⟩ : ∃ G4 : Nat → Prop, G4 = fun x => G x ∨ w3.heap.size ≤ x ∧ x < w4.heap.size := ⟨_, rfl⟩
                have hx4 := HX3.out.op ht hn4
                rw [← hG4] at hx4
                have HX4 := Calm.hid hx4
                have HS4 := Calm.hid (HS3.out.turns ht hGK.out)
                have HR4 := Calm.hid (HR3.out.turns ht (fun h => by have := hG3.out _ h; omega))
                clear ht hn4 hG4 hx4 c0 c1
                by_cases hin : inR L a.i
                case' neg =>
                  have hE : takeE L a.i = 1 := by unfold takeE; rw [if_neg hin]
                  have hH : holdL L a.i = L := by unfold holdL; rw [if_neg hin]
                  have HH := Calm.hid hH
                  rw [hE]
                  clear hE hH hin
                  go_wp2_with fail
                  go_roundw
                  case rel =>
                    have hx := HX4.out
                    rw [HH.out] at hx
                    exact ⟨j + 1, S, ls, ps, cs, pl, cl, by omega, by go_num, by rw [HMS.out], by rw [HMS.out], KL.of HSZ.out (by have := HMS.out; omega) HL.out HP.out hx⟩
                  case measure => simp [intOf]; omega
                case' pos =>
                  have hE : takeE L a.i = 0 := by unfold takeE; rw [if_pos hin]
                  obtain ⟨r, hr⟩ : ∃ r : Nat, a.i = r := ⟨a.i.toNat, by have := hin.1; omega⟩
                  have c1 := HR4.out.cell (i := 1) rfl
                  have hx4 := HX4.out
                  rw [hr] at hin c1 hx4
                  have hrl : r < l := by have := hin.2; have := HLL.out; omega
                  obtain ⟨x, hx⟩ := getElem?_of L (i := r) (by have := HLL.out; omega)
                  rw [holdL_in hin hx] at hx4
                  have hlen : (L.eraseIdx r ++ [x]).length = l := by rw [List.length_append, List.length_eraseIdx, if_pos (by have := HLL.out; omega)]; have := HLL.out; simp; omega
                  rw [hE]
                  obtain ⟨z, rfl⟩ : ∃ z, l = z + 1 := ⟨l - 1, by omega⟩
                  have hlast : (L.eraseIdx r ++ [x])[z]? = some x := by
                    have e : (L.eraseIdx r).length = z := by simp at hlen; omega
                    rw [List.getElem?_append_right (by omega), e]; simp
                  have HLA := Calm.hid hlast
                  have HXX := Calm.hid hx
                  have HLEN := Calm.hid hlen
                  have HX4' := Calm.hid hx4
                  clear hE hin hx hlen hlast hx4 hr
                  go_wp2_with fail
                  refine (letters_any G4 w1.heap.size nn _ w4 HX4'.out.net (by rw [HLEN.out]; exact hl4)).mono ?_
                  rintro e w5 ⟨p2, kc2, rfl, hls, hb⟩
                  rw [HLEN.out]
                  have HX5 := Calm.hid (HX4'.out.below hb)
                  have HR5 := Calm.hid (HR4.out.below hb)
                  obtain ⟨g1, o1, q1, k1, y, hp1, hy, d0, d1, hby1, _, _⟩ := (HS4.out.below hb).get (i := r) (by have := HLL.out; omega)
                  obtain ⟨g2, o2, q2, k2, y2, hp2, hy2, e0, e1, hby2, _, _⟩ := hls.get (i := z) (by rw [HLEN.out]; omega)
                  obtain rfl : x = y := by rw [HXX.out] at hy; cases hy; rfl
                  obtain rfl : x = y2 := by rw [HLA.out] at hy2; cases hy2; rfl
                  have hkc1 : z + 1 ≤ kc1 := by have := HS4.out.le; have := HLL.out; omega
                  have hkc2 : z + 1 ≤ kc2 := by have := hls.le; rw [HLEN.out] at this; exact this
                  subst hp1
                  subst hp2
                  have ks1 := fun n => (hby1.drewN n).str Try.underlying31 Try.underlying5 Try.underlying9
                  have ks2 := fun n => (hby2.drewN n).str Try.underlying31 Try.underlying5 Try.underlying9
                  have c2' := HR5.out.cell (i := 1) rfl
                  have hc : w5.cell? ⟨wr.heap.size, 1, none⟩ = some (.int .i64 r) := by
                    have hbc := hb.cell (p := ⟨wr.heap.size, 1, none⟩) HR4.out.lt
                    rw [hbc]; exact c1
                  clear hls hb hy hy2 hby1 hby2 c1 c2'
                  go_wp2_with fail
                  have hr0 : decide ((r : Int) < 0) = false := decide_eq_false (by omega)
                  have hr1 : decide ((z : Int) + 1 ≤ (r : Int)) = false := decide_eq_false (by omega)
                  have hr2 : decide (z + 1 ≤ r) = false := decide_eq_false (by omega)
                  refine Calm.region_d 47 (by kernel_rfl) (by kernel_rfl) ?_
                  simp only [List.take, List.drop]
                  repeat (go_big_quiet_step (fail))
                  refine wpQuiet_nil ?_
                  rintro _ ⟨nq, rfl⟩
                  refine wpList_nil ?_
                  go_wp2
                  go_roundw
                  case rel =>
                    have hx := HX5.out.below (w' := w5.drewN nq) ⟨rfl, rfl, rfl, Nat.le_refl _, fun _ _ => rfl⟩
                    exact ⟨j + 1, S, ls, ps, cs, pl, cl, by omega, by go_num, by rw [HMS.out], by rw [HMS.out], KL.of HSZ.out (by have := HMS.out; omega) (by rw [HLEN.out]; exact hl4) (keep_hold HP.out HXX.out) hx⟩
                  case measure => simp [intOf]; omega
        · have hjm : j = m := by omega
          clear hj hlt
          subst hjm
          obtain ⟨l, hl⟩ : ∃ l, l = L.length := ⟨_, rfl⟩
          have hl4 : l ≤ 4096 := by have := HL.out; omega
          have hsum : l = ls.sum := by rw [hl]; exact keep_small HP.out HSZ.out
          have hlsl : ms = ls.length := by rw [HMS.out]; exact HSZ.out
          have HLL := Calm.hid hl
          have HSUM := Calm.hid hsum
          have HLSL := Calm.hid hlsl
          clear hl hsum hlsl
          go_wp2_with fail
          go_loopw [16, 17] (fun tt ct wq => ∃ i t : Nat, i ≤ ms ∧ ct = .int .i64 i ∧ tt = .int .i64 t ∧ t = (ls.take i).sum ∧ wq = wr) (fun _ ct _ => ms - (intOf ct).toNat)
          case atStart => exact ⟨0, 0, by omega, rfl, rfl, by simp, rfl⟩
          case round =>
            obtain ⟨i, t, him, rfl, rfl, ht, rfl⟩ := hrel
            have htl : t ≤ l := by
              rw [ht, HSUM.out]
              have : ls.sum = (ls.take i).sum + (ls.drop i).sum := by rw [← List.sum_append_nat, List.take_append_drop]
              omega
            have HT := Calm.hid ht
            clear ht
            by_cases hlt : i < ms
            · obtain ⟨g2, u, rfl, hu, e0, ef⟩ := HX.out.left.get1 (i := i) (by rw [← HLSL.out]; exact hlt)
              rw [List.getElem?_map, Option.map_eq_some_iff] at hu
              obtain ⟨z, hz, rfl⟩ := hu
              have hz4 : z ≤ l := by rw [HSUM.out]; exact le_sum (List.mem_of_getElem? hz)
              unfold iv at e0
              have HZ := Calm.hid hz
              clear hz
              go_wp2_with fail
              go_roundw
              case rel => exact ⟨i + 1, t + z, by omega, by go_num, by go_num, by rw [List.take_add_one, HZ.out, HT.out]; simp, by trivial⟩
              case measure => simp [intOf]; omega
            · have HTL : Hid (t = l) := by rw [Hid]; rw [HT.out, HSUM.out, List.take_of_length_le (by have := HLSL.out; omega)]
              have htl := HTL.out
              subst htl
              go_wp2_with fail
              refine (len_any G w1.heap.size nn L _ HX.out.net).mono ?_
              rintro e w3 ⟨rfl, rfl⟩
              rw [← HLL.out]
              go_wp2_with fail
              refine (len_any G w1.heap.size nn L _ HX.out.net).mono ?_
              rintro e w3 ⟨rfl, rfl⟩
              rw [← HLL.out]
              go_wp2_with fail
              refine (wakes_any _).mono ?_
              rintro e w3 ⟨rfl, hb⟩
              have HB := Calm.hid (HX.out.turns.trans (Turns.of_below hb))
              clear hb
              go_wp2
              go_ret
              exact ⟨rfl, HB.out.below (fun _ h => by omega)⟩
end Go.Proofs.Ytfhjpnhchggljaa
