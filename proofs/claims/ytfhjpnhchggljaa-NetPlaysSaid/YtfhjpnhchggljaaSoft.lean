/-
  Letters, once more: what it tells is new, and may be written.
-/
import Derived.Test.YtfhjpnhchggljaaAlike
namespace Go.Proofs.Ytfhjpnhchggljaa
open Go.RowKit Go.Sha Go.Calm
attribute [local go_sem] Oper.semAt_some
set_option maxRecDepth 100000 in
theorem clone_soft (p : Option Addr) (n c : Nat) (l : List UInt8) (w : World) (hb : BytesOf w p n c l) (hn : n ≤ 65536) :
    Calls Try.prog 25 #[.slice p n c] w fun e w' => ∃ q c', e = .returned (.slice q n c') ∧ BytesOf w' q n c' l ∧ (∀ ad, q = some ad → w.heap.size ≤ ad.block ∧ ∀ j, w'.frozen? ⟨ad.block, j, none⟩ = false) ∧ Below w.heap.size w w' := by
  obtain ⟨i0, hi0, hz0, hz1, hz2⟩ := info_parts Try.info5
  have q31 : ∀ (w : World) (a : Option Addr) (n c n' c' : Nat), (binOp .eql 31 (.slice a n c) (.slice none n' c')).run Try.prog w = .ok (.bool a.isNone) w := fun w a n c n' c' => Lib.run_eql_slice_nil w _ _ a n c n' c' Try.underlying31
  have HQ := Calm.hid hb
  clear hb
  cases p with
  | none =>
    obtain ⟨rfl, rfl⟩ := HQ.out.nil rfl
    go_enter Try.func25, Try.ntmps25
    go_wp2
    go_ret
    exact ⟨none, 0, rfl, HQ.out, (fun ad h => by cases h), Below.refl _ _⟩
  | some ad =>
    go_enter Try.func25, Try.ntmps25
    go_wp2_with (at_builtin; refine wpList_append_any rfl (.tmp 5) (.tmp 6) 31 rfl w.heap.size 5 i0 (.int .u8 0) 1 1 Try.underlying31 hi0 hz0 hz1 hz2 rfl (by decide) _ _ _ rfl (World.ownsRow_made w #[] 0 (Nat.le_refl _) (Nat.zero_le _) rfl) (some ad) n c (l.map bv) rfl (by simp [HQ.out.len]) HQ.out.nil (HQ.out.alloc _).news (BytesOf.one _) ?_ ?_ ?_ ?_)
    · simp only [maxLen]; omega
    · omega
    · simp
    · intro v' w' ho hg
      have HO := Calm.hid ho
      have HG := Calm.hid hg
      clear ho hg
      go_wp2
      go_ret
      obtain ⟨q, c', rfl, hq, hown⟩ := BytesOf.own HO.out
      refine ⟨q, c', rfl, hq, fun a ha => ⟨(hown a ha).2.2.1, fun j => ?_⟩, ?_⟩
      · rcases HO.out.2 with ⟨e, _⟩ | ⟨g, cap, cur, e, _, hgc, _⟩
        · simp at e; rw [e.1] at ha; cases ha
        · simp at e; rw [e.1] at ha; cases ha; simp [World.frozen?, hgc]
      · exact ((Below.refl w.heap.size w).alloc (Nat.le_refl _) _).grown HG.out (by simp) (fun k hk => by simp [Value.ownBlock] at hk; omega)
/-- A block of the letters' bytes: new, not the row's, and not frozen. -/
def SK (w : World) (B b : Nat) (p : Option Addr) (x : Nat) : Prop := B ≤ x ∧ x ≠ b ∧ ¬ rowBlk p x ∧ x < w.heap.size ∧ ∀ j, w.frozen? ⟨x, j, none⟩ = false
theorem LV.soft {w w' : World} {R : Nat → Prop} {B b : Nat} {p p' : Option Addr} {cs : List Value} {L : List (Nat × List UInt8)} (h : LV w (SK w B b p) cs L) (k : Turns R w w') (hR : ∀ x, SK w B b p x → ¬ R x) (hp : ∀ x, x < w.heap.size → rowBlk p' x → rowBlk p x) : LV w' (SK w' B b p') cs L :=
  (h.turns k hR).mono (fun x _ hx => ⟨hx.1, hx.2.1, fun hr => hx.2.2.1 (hp x hx.2.2.2.1 hr), Nat.lt_of_lt_of_le hx.2.2.2.1 k.size, fun j => (k.frozen hx.2.2.2.1 (hR x hx)).trans (hx.2.2.2.2 j)⟩)
/-- A slice that reads as letters, in new memory of its own. -/
structure LSoft (w : World) (B b : Nat) (p : Option Addr) (c : Nat) (L : List (Nat × List UInt8)) : Prop where
  le : L.length ≤ c
  max : c ≤ maxLen
  nil : p = none → L = [] ∧ c = 0
  row : ∃ cs, LV w (SK w B b p) cs L ∧ ∀ ad, p = some ad → ∃ g, ad = ⟨g, 0, none⟩ ∧ g < w.heap.size ∧ B ≤ g ∧ ∀ j u, cs[j]? = some u → w.cell? ⟨g, j, none⟩ = some u
theorem LSoft.ls {w : World} {B b : Nat} {p : Option Addr} {c : Nat} {L : List (Nat × List UInt8)} (h : LSoft w B b p c L) : LS w (fun k => B ≤ k) p c L := by
  obtain ⟨cs, h1, h2⟩ := h.row
  refine ⟨h.le, h.max, h.nil, cs, h1.mono fun _ _ h => h.1, fun ad ha => ?_⟩
  obtain ⟨g, e, hg, hB, hc⟩ := h2 ad ha
  exact ⟨g, 0, e, hg, hB, fun j u hu => by rw [Nat.zero_add]; exact hc j u hu⟩
/-- What the loop of Letters holds: the first i are there. -/
structure LTS (w : World) (b : Nat) (L : List (Nat × List UInt8)) (i : Nat) (p : Option Addr) (k : Nat) (wr : World) : Prop where
  below : Below w.heap.size w wr
  row : ∃ cs, RowOf wr (fun x => w.heap.size ≤ x) b 2 cs p i k ∧ LV wr (SK wr w.heap.size b p) cs (L.take i)
set_option maxRecDepth 100000 in
set_option maxHeartbeats 1000000 in
theorem letters_soft (F : Nat → Prop) (b n : Nat) (L : List (Nat × List UInt8)) (w : World) (hN : Net w F b n L) (hL : L.length ≤ 4096) :
    Calls Try.prog 22 #[.pointer (some ⟨b, 0, none⟩)] w fun en w' => ∃ p c, en = .returned (.slice p L.length c) ∧ LSoft w' w.heap.size b p c L ∧ Below w.heap.size w w' := by
  obtain ⟨i0, hi0, hz0, hz1, hz2⟩ := info_parts Try.info36
  obtain ⟨p0, c0, cs0, hN⟩ := hN
  obtain ⟨m, hm⟩ : ∃ m, m = L.length := ⟨_, rfl⟩
  have hc1 := hN.rw_
  rw [← hm] at hc1 hL
  have c1 := hc1.cell (i := 1) rfl
  have HN := Calm.hid hN
  have HM := Calm.hid hm
  have hb := hN.lt
  clear hN hc1
  clear hm
  go_enter Try.func22, Try.ntmps22
  go_wp2_with fail
  go_loopw [13, 3] (fun ct t wr => ∃ (i : Nat) (p : Option Addr) (k : Nat), i ≤ m ∧ ct = .int .i64 i ∧ t = .slice p i k ∧ LTS w b L i p k wr) (fun ct _ _ => m - (intOf ct).toNat)
  case atStart => exact ⟨0, none, 0, by omega, rfl, rfl, Below.refl _ _, [], RowOf.none _ _ _ _, trivial⟩
  case round =>
    obtain ⟨i, p, k, him, rfl, rfl, hl⟩ := hrel
    have HL := Calm.hid hl
    clear hl
    by_cases hlt : i < m
    · obtain ⟨x, hx⟩ := getElem?_of L (i := i) (by rw [← HM.out]; exact hlt)
      obtain ⟨q, cq, l0, l1, hlv⟩ := HN.out.lv.at hx
      obtain ⟨g, hg⟩ : ∃ g, p0 = some ⟨g, 0, none⟩ := by
        cases hp : p0 with
        | none => have := (HN.out.row.nil hp).1; have := HM.out; omega
        | some ad => obtain ⟨g, rfl, _⟩ := HN.out.row.at_ ad hp; exact ⟨g, rfl⟩
      subst hg
      obtain ⟨g', e, _, _, hgl, h5, _⟩ := HN.out.row.at_ _ rfl
      cases e
      have ht0 : Turns (fun _ => False) w wr := Turns.of_below HL.out.below
      have d0 : wr.cell? ⟨g, i * 2, none⟩ = some (.int .u8 x.1) := (ht0.cell hgl id).trans (h5 _ _ l0)
      have d1 : wr.cell? ⟨g, i * 2 + 1, none⟩ = some (.slice q x.2.length cq) := (ht0.cell hgl id).trans (h5 _ _ l1)
      have HLV := Calm.hid (hlv.turns ht0 (fun _ _ h => h))
      have HX := Calm.hid hx
      clear l0 l1 h5 ht0 hx hlv
      obtain ⟨cs, hro, hlr⟩ := HL.out.row
      obtain ⟨w5, hw5⟩ : ∃ w5, w5 = wr.alloc (.cells #[.int .u8 x.1, .slice q x.2.length cq] 36) := ⟨_, rfl⟩
      have ht5 : Turns (fun _ => False) wr w5 := by rw [hw5]; exact (Turns.refl _ wr).alloc _
      have r5 : Rw w5 wr.heap.size [.int .u8 x.1, .slice q x.2.length cq] 36 := by rw [hw5]; exact Rw.new wr _ 36
      have hs5 : w5.heap.size = wr.heap.size + 1 := by rw [hw5]; simp
      obtain ⟨R, hR⟩ : ∃ R : Nat → Prop, R = rowBlk p := ⟨_, rfl⟩
      have hoR : ¬ R wr.heap.size := by rw [hR]; intro h; have := (hro.blk h).2.2; omega
      have k2 : ∀ z : KeptR R w5, z.world.cell? ⟨wr.heap.size, 0, none⟩ = some (.int .u8 x.1) := fun z => (z.turns.cell r5.lt hoR).trans (r5.cell (i := 0) rfl)
      have k3 : ∀ z : KeptR R w5, z.world.cell? ⟨wr.heap.size, 1, none⟩ = some (.slice q x.2.length cq) := fun z => (z.turns.cell r5.lt hoR).trans (r5.cell (i := 1) rfl)
      have HRO := Calm.hid (hro.turns (w' := w5) ht5 (fun _ _ h => h))
      have HLR := Calm.hid (hlr.soft (w' := w5) ht5 (fun _ _ h => h) (fun _ _ h => h))
      have HR := Calm.hid hR
      have HT5 := Calm.hid ht5
      have HW5 := Calm.hid hw5
      have hx256 : x.1 < 256 := HLV.out.1.2.1
      have hxl : x.2.length ≤ 65536 := HLV.out.1.2.2.1
      have HBY : Hid (BytesOf w5.drew q x.2.length cq x.2) := by
        obtain ⟨_, _, _, p', c', e, h, _⟩ := HLV.out.1
        cases e
        exact (h.turns HT5.out (fun _ _ _ h => h)).drewN 1
      clear ht5 r5 hro hlr
      clear hR
      clear hw5
      go_wp2_with fail
      rw [← HW5.out]
      refine region_lr R [true, true, true, true, true, false, false, false, false, false] (by kernel_rfl) (by kernel_rfl) (by kernel_rfl) ?_
      simp only [heads, tails]
      repeat (go_big_quiet_step (fail))
      refine wpQuiet_nil ?_
      refine wpL_step ?_
      go_wp2_with fail
      refine (clone_soft q x.2.length cq x.2 _ HBY.out hxl).mono ?_
      rintro e w2 ⟨q2, cq2, rfl, hb2, hq2, hbl⟩
      have HB2 := Calm.hid hb2
      have HBL := Calm.hid hbl
      have HQ2 := Calm.hid hq2
      clear hb2 hbl hq2
      go_wp2
      have HTU : Hid (Turns R w5 w2) := (Turns.refl R w5).drew.trans ((Turns.of_below (R := R) HBL.out))
      refine ⟨⟨⟨w2, HTU.out⟩, rfl⟩, ?_⟩
      refine wpL_step ?_
      go_wp2
      refine ⟨⟨⟨w2, HTU.out⟩, rfl⟩, ?_⟩
      refine wpL_step ?_
      go_wp2
      have HT3 := HTU.out.alloc (.cells #[.int .u8 x.1, .slice q2 x.2.length cq2] 36)
      obtain ⟨w3, hw3⟩ : ∃ w3, w3 = w2.alloc (.cells #[.int .u8 x.1, .slice q2 x.2.length cq2] 36) := ⟨_, rfl⟩
      have HF3 : Hid (∀ ad, q2 = some ad → 0 < x.2.length → ∀ j, w3.frozen? ⟨ad.block, j, none⟩ = false) := fun ad ha h0 j => by
        have hlt : ad.block < w2.heap.size := by
          have := World.block_lt_of_cell? w2 _ (HB2.out.at_ ad ha 0 h0)
          have e : (ad.add 0).block = ad.block := by unfold Addr.add; split <;> rfl
          rwa [e] at this
        rw [hw3, ((Turns.refl (fun _ => False) w2).alloc _).frozen hlt id]
        exact (HQ2.out ad ha).2 j
      have HR3 : Rw w3 w2.heap.size [.int .u8 x.1, .slice q2 x.2.length cq2] 36 := by rw [hw3]; exact Rw.new w2 _ 36
      have HT0 : Hid (Turns (fun _ => False) w5 w3) := by rw [hw3]; exact ((Turns.refl _ w5).drew.trans (Turns.of_below HBL.out)).alloc _
      have HR3 := Calm.hid HR3
      have HQ3 : Hid (BytesOf w3 q2 x.2.length cq2 x.2) := by rw [hw3]; exact HB2.out.alloc _
      have hlt3 : w2.heap.size < w3.heap.size := HR3.out.lt
      refine ⟨⟨⟨_, HTU.out.alloc _⟩, rfl⟩, ?_⟩
      rw [← hw3]
      refine wpL_step ?_
      have hsw := HL.out.below.size
      refine wpList_append_row rfl (.tmp 17) (.tmp 24) 44 rfl 36 i0 _ 2 32 Try.underlying44 hi0 hz0 hz1 hz2 rfl (by decide) (fun k => w.heap.size ≤ k) (fun k => w.heap.size ≤ k) b i k p cs rfl ?_ ?_ ?_ ?_ ⟨w2.heap.size, 0, none⟩ 1 1 [.int .u8 x.1, .slice q2 x.2.length cq2] rfl rfl ?_ ?_ ?_ ?_ ?_
      · exact HRO.out.turns HT0.out (fun _ _ h => h)
      · exact fun k _ h => h
      · have := HT0.out.size; exact fun k hk => by omega
      · have := HT0.out.size; omega
      · intro j u hu; rw [add_plain, Nat.zero_add]; exact HR3.out.cell hu
      · exact one2 _ _ rfl rfl
      · simp only [maxLen]; omega
      · omega
      intro p4 c4 w4 hrow ht4 hp4
      have HROW := Calm.hid hrow
      have HT4 := Calm.hid ht4
      have HP4 := Calm.hid hp4
      clear hrow ht4 hp4
      have HTR : Hid (Turns R w5 w4) := (HT0.out.mono (fun _ _ h => h.elim)).trans (by rw [HR.out]; exact HT4.out)
      refine wpList_nil ⟨rfl, rfl, .inr ⟨⟨w4, HTR.out⟩, rfl⟩, ?_⟩
      refine wpL_step ?_
      go_wp2
      refine wpL_nil ?_
      go_wp2
      go_roundw
      case rel =>
        refine ⟨i + 1, p4, c4, by omega, by go_num, rfl, ?_, _, HROW.out, ?_⟩
        · have h1 : Turns (fun k => w.heap.size ≤ k) w w5 := (Turns.of_below HL.out.below).trans (HT5.out.mono fun _ _ h => h.elim)
          refine (h1.trans (HTR.out.mono fun k _ h => ?_)).below (fun _ h => by omega)
          rw [HR.out] at h
          exact (HRO.out.blk h).1
        · have hs5' := HT5.out.size
          have hs3 := HT0.out.size
          rw [List.take_add_one, HX.out]
          refine LV.append (HLR.out.soft HTR.out (fun y hy hr => hy.2.2.1 (by rw [HR.out] at hr; exact hr)) (fun y hy hr => HP4.out y (by omega) hr)) ?_
          refine LV.one (x := x) hx256 hxl (HQ3.out.turns HT4.out fun ad ha _ hr => ?_) fun ad ha h0 => ?_
          · have := (HRO.out.blk hr).2.2
            have := (HQ2.out ad ha).1
            simp at this
            omega
          · have h5 := (HQ2.out ad ha).1
            have h6 : ad.block < w3.heap.size := by
              have := World.block_lt_of_cell? w3 _ (HQ3.out.at_ ad ha 0 h0)
              have e : (ad.add 0).block = ad.block := by unfold Addr.add; split <;> rfl
              rwa [e] at this
            simp at h5
            have hnr : ¬ rowBlk p ad.block := fun hr => by have := (HRO.out.blk hr).2.2; omega
            refine ⟨by omega, by omega, fun hr => hnr (HP4.out _ h6 hr), Nat.lt_of_lt_of_le h6 HT4.out.size, fun j => ?_⟩
            rw [HT4.out.frozen h6 hnr]
            exact HF3.out ad ha h0 j
      case measure => simp [intOf]; omega
    · obtain rfl : i = m := by omega
      go_wp2
      go_ret
      obtain ⟨cs, hro, hlr⟩ := HL.out.row
      have hm := HM.out
      subst hm
      rw [List.take_of_length_le (Nat.le_refl _)] at hlr
      refine ⟨p, k, rfl, ⟨hro.le, hro.max, (fun e => ⟨List.eq_nil_of_length_eq_zero (hro.nil e).1, (hro.nil e).2⟩), cs, hlr, fun ad ha => ?_⟩, HL.out.below⟩
      obtain ⟨g, rfl, h2, _, h4, h5, _⟩ := hro.at_ ad ha
      exact ⟨g, rfl, h4, h2, h5⟩
end Go.Proofs.Ytfhjpnhchggljaa
