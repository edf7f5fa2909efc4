/-
  Hash.Write: what a hash holds after bytes are written to it; a nil hash takes nothing.
-/
import Derived.Test.YtpbahoapjkmcjaaDoorMix
import Derived.Test.YtpbahoapjkmcjaaDoorBytes
namespace Go.Proofs.YtpbahoapjkmcjaaDoor
open Go.RowKit Go.Sha Go.Calm
theorem Tryd.info5 : (Tryd.prog.info? 5).map (fun i => (i.zero, i.size, i.bytes)) = some (some (.int .u8 0), 1, 1) := by kernel_rfl

theorem own_ne {w : World} {base : Nat} {e t : TypeId} {size : Nat} {v : Value} {n : Nat} {xs ys : List Value} {g : Nat} (h : w.ownsRow base e size v n xs) (hr : Rw w g ys t) (ht : e ≠ t) : v.ownBlock ≠ some g := by
  rcases h.2 with ⟨rfl, _⟩ | ⟨g', cap, cur, rfl, _, hg, _⟩
  · simp [Value.ownBlock]
  · intro e'
    simp only [Value.ownBlock, Option.some.injEq] at e'
    subst e'
    have := hg.symm.trans hr
    simp at this
    exact ht this.2
/-- A hash to which m was written. -/
structure IsHash (w : World) (hb : Nat) (left : Value) (m : List UInt8) : Prop where
  row : Rw w hb ((eat H0 m).1.map wv ++ [left, .int .u64 (m.length : Int)]) 49
  own : w.ownsRow 1 5 1 left (eat H0 m).2.length ((eat H0 m).2.map bv)
/-- The constants stand. -/
def HasK (w : World) : Prop := ∀ i, i < 64 → w.cell? ⟨0, i, none⟩ = some (wv (K i))
theorem HasK.turns {R : Nat → Prop} {w w' : World} (h : HasK w) (k : Turns R w w') (hr : ¬ R 0) : HasK w' := fun i hi => (k.cell (World.block_lt_of_cell? w _ (h i hi)) hr).trans (h i hi)

theorem own_base {w : World} {base base' : Nat} {e : TypeId} {size : Nat} {v : Value} {n : Nat} {xs : List Value} (h : w.ownsRow base e size v n xs) (hb : ∀ k, v.ownBlock = some k → base' ≤ k) : w.ownsRow base' e size v n xs := by
  refine ⟨h.1, ?_⟩
  rcases h.2 with hn | ⟨g, cap, cur, rfl, _, r⟩
  · exact .inl hn
  · exact .inr ⟨g, cap, cur, rfl, hb g rfl, r⟩
theorem own_setCell {w : World} {base : Nat} {e : TypeId} {size : Nat} {v : Value} {n : Nat} {xs : List Value} (h : w.ownsRow base e size v n xs) {a : Addr} (ha : ∀ k, v.ownBlock = some k → k ≠ a.block) (u : Value) : (w.setCell a u).ownsRow base e size v n xs := by
  refine ⟨h.1, ?_⟩
  rcases h.2 with hn | ⟨g, cap, cur, rfl, hb, hg, r⟩
  · exact .inl hn
  · exact .inr ⟨g, cap, cur, rfl, hb, by rw [Below.heap_setCell _ _ _ _ (ha g rfl)]; exact hg, r⟩
theorem own_turns {R : Nat → Prop} {w w' : World} {base : Nat} {e : TypeId} {size : Nat} {v : Value} {n : Nat} {xs : List Value} (h : w.ownsRow base e size v n xs) (k : Turns R w w') (ha : ∀ k, v.ownBlock = some k → ¬ R k) : w'.ownsRow base e size v n xs := by
  refine ⟨h.1, ?_⟩
  rcases h.2 with hn | ⟨g, cap, cur, rfl, hb, hg, r⟩
  · exact .inl hn
  · exact .inr ⟨g, cap, cur, rfl, hb, by rw [k.block g (Array.getElem?_eq_some_iff.1 hg).1 (ha g rfl)]; exact hg, r⟩

/-- Write's loop: what is left, and what it comes to. -/
structure WL (hb : Nat) (tot : List UInt8) (left : Option Nat) (n : Value) (w : World) (s : List UInt32) (p : Option Addr) (k c : Nat) (l : List UInt8) (wr : World) : Prop where
  row : Rw wr hb (s.map wv ++ [.slice p k c, n]) 49
  bytes : BytesOf wr p k c l
  off : ∀ ad, p = some ad → 0 < k → ad.block ≠ hb
  eat : eat s l = eat H0 tot
  words : s.length = 8
  bound : k < 140737488355328
  turns : Turns (fun b => b = hb ∨ left = some b) w wr

theorem WL.cell8 {hb : Nat} {tot : List UInt8} {left : Option Nat} {n : Value} {w wr : World} {s : List UInt32} {p : Option Addr} {k c : Nat} {l : List UInt8} (h : WL hb tot left n w s p k c l wr) : wr.cell? ⟨hb, 8, none⟩ = some (.slice p k c) :=
  h.row.cell (by rw [List.getElem?_append_right (by simp [h.words])]; simp [h.words])
theorem WL.plain {hb : Nat} {tot : List UInt8} {left : Option Nat} {n : Value} {w wr : World} {s : List UInt32} {p : Option Addr} {k c : Nat} {l : List UInt8} (h : WL hb tot left n w s p k c l wr) (hk : 0 < k) : ∃ b o, p = some ⟨b, o, none⟩ := by
  cases p with
  | none => have := (h.bytes.nil rfl).1; omega
  | some ad => obtain ⟨b, o, rfl⟩ := h.bytes.plain hk; exact ⟨b, o, rfl⟩
theorem WL.hasK {hb : Nat} {tot : List UInt8} {left : Option Nat} {n : Value} {w wr : World} {s : List UInt32} {p : Option Addr} {k c : Nat} {l : List UInt8} (h : WL hb tot left n w s p k c l wr) (hK : HasK w) (h0 : 0 < hb) (hl : ∀ k, left = some k → k ≠ 0) : HasK wr :=
  hK.turns h.turns (fun e => by
    rcases e with e | e
    · omega
    · exact hl 0 e rfl)
theorem WL.step {hb : Nat} {tot : List UInt8} {left : Option Nat} {n : Value} {w wr w2 : World} {s : List UInt32} {bb off : Nat} {k c : Nat} {l : List UInt8} (h : WL hb tot left n w s (some ⟨bb, off, none⟩) k c l wr) (hk : 64 ≤ k)
    (hr2 : Rw w2 hb ((mix s (l.take 64)).map wv ++ [.slice (some ⟨bb, off, none⟩) k c, n]) 49) (ht2 : Turns (· = hb) wr w2) (p' : Option Addr) (c' : Nat) (hp : BytesOf wr p' (k - 64) c' (l.drop 64)) (hb' : ∀ ad, p' = some ad → ad.block = bb) :
    WL hb tot left n w (mix s (l.take 64)) p' (k - 64) c' (l.drop 64) (w2.setCell ⟨hb, 8, none⟩ (.slice p' (k - 64) c')) := by
  have hm := mix_length h.words (l.take 64)
  have hbb : bb ≠ hb := h.off _ rfl (by omega)
  have hof : ∀ ad, p' = some ad → 0 < k - 64 → ad.block ≠ hb := fun ad had _ => by rw [hb' ad had]; exact hbb
  have hr3 := hr2.set 8 (.slice p' (k - 64) c')
  rw [List.set_append_right _ _ (by simp [hm])] at hr3
  simp only [List.length_map, hm, Nat.sub_self, List.set_cons_zero] at hr3
  have t3 : Turns (· = hb) wr (w2.setCell ⟨hb, 8, none⟩ (.slice p' (k - 64) c')) := ht2.setCell (fun _ => rfl) _
  refine ⟨hr3, hp.turns t3 (fun ad had h0 => hof ad had h0), hof, ?_, hm, by have := h.bound; omega, h.turns.step t3 (fun b _ e => .inl e)⟩
  rw [← h.eat, eat_big (s := s) (l := l) (by have := h.bytes.len; omega)]
theorem wl_end {hb : Nat} {left v2 : Value} {m b : List UInt8} {w wr w2 : World} {s : List UInt32} {p : Option Addr} {k c : Nat} {l : List UInt8} (h : WL hb (m ++ b) left.ownBlock (.int .u64 ((m ++ b).length : Int)) w s p k c l wr) (hk : k < 64)
    (hlt : hb < w.heap.size) (hg : wr.grownBy w2 (Value.ownBlock (.slice none 0 0))) (ho : w2.ownsRow wr.heap.size 5 1 v2 k (l.map bv)) :
    ∃ p2 c2, v2 = .slice p2 k c2 ∧ w2.cell? ⟨hb, 8, none⟩ = some (.slice p k c) ∧ w2.frozen? ⟨hb, 8, none⟩ = false ∧
      ∃ left', IsHash (w2.setCell ⟨hb, 8, none⟩ (.slice p2 k c2)) hb left' (m ++ b) ∧ Turns (fun k => k = hb ∨ left.ownBlock = some k) w (w2.setCell ⟨hb, 8, none⟩ (.slice p2 k c2)) ∧ (∀ k, left'.ownBlock = some k → w.heap.size ≤ k) := by
  obtain ⟨p2, c2, hv2, _, _⟩ := BytesOf.own ho
  subst hv2
  have he : eat H0 (m ++ b) = (s, l) := by rw [← h.eat, eat_small (by rw [h.bytes.len]; exact hk)]
  have t2 : Turns (fun _ => False) wr w2 := Turns.of_grown hg (fun k hk _ => by simp [Value.ownBlock] at hk)
  have hr2 : Rw w2 hb _ 49 := h.row.turns t2 (fun h => h)
  have hsz := h.turns.size
  have hr3 := hr2.set 8 (.slice p2 k c2)
  rw [List.set_append_right _ _ (by simp [h.words])] at hr3
  simp only [List.length_map, h.words, Nat.sub_self, List.set_cons_zero] at hr3
  refine ⟨p2, c2, rfl, hr2.cell (by rw [List.getElem?_append_right (by simp [h.words])]; simp [h.words]), hr2.free 8, .slice p2 k c2, ⟨by rw [he]; exact hr3, ?_⟩, ?_, fun j hj => ?_⟩
  · rw [he]
    simp only [h.bytes.len]
    have hlb : ∀ k', (Value.slice p2 k c2).ownBlock = some k' → wr.heap.size ≤ k' := fun k' hk' => (ho.lt k' hk').1
    refine own_setCell (own_base ho (fun k' hk' => by have := hlb k' hk'; omega)) (fun k' hk' e => by have := hlb k' hk'; simp at e; omega) _
  · exact (h.turns.step t2 (fun _ _ h => h.elim)).setCell (fun _ => .inl rfl) _
  · have := (ho.lt j hj).1; omega
def leftLen (hb : Nat) (w : World) : Nat := match w.cell? ⟨hb, 8, none⟩ with | some (.slice _ n _) => n | _ => 0
theorem WL.length {hb : Nat} {tot : List UInt8} {left : Option Nat} {n : Value} {w wr : World} {s : List UInt32} {p : Option Addr} {k c : Nat} {l : List UInt8} (h : WL hb tot left n w s p k c l wr) : leftLen hb wr = k := by
  simp [leftLen, h.cell8]
theorem wl_start {hb : Nat} {left v1 : Value} {m b : List UInt8} {w w1 : World} {N : Int} (h : IsHash w hb left m) 
    (hg : (w.setCell ⟨hb, 9, none⟩ (.int .u64 N)).grownBy w1 left.ownBlock)
    (ho : w1.ownsRow 1 5 1 v1 ((eat H0 m).2.length + b.length) (((eat H0 m).2 ++ b).map bv)) (hN : N = ((m ++ b).length : Int)) (hL : (eat H0 m).2.length < 64) (hlen : m.length + b.length < 70368744177664) :
    ∃ p1 c1, v1 = .slice p1 ((eat H0 m).2.length + b.length) c1 ∧ (w1.cell? ⟨hb, 8, none⟩ = some left ∧ w1.frozen? ⟨hb, 8, none⟩ = false) ∧ Turns (fun b => b = hb ∨ left.ownBlock = some b) w w1 ∧
      WL hb (m ++ b) left.ownBlock (.int .u64 ((m ++ b).length : Int)) w (eat H0 m).1 p1 ((eat H0 m).2.length + b.length) c1 ((eat H0 m).2 ++ b) (w1.setCell ⟨hb, 8, none⟩ (.slice p1 ((eat H0 m).2.length + b.length) c1)) := by
  obtain ⟨p1, c1, hv1, hb1, hp1⟩ := BytesOf.own ho
  have hl8 := eat_words (s := H0) rfl m
  have hne' : ∀ k, left.ownBlock = some k → k ≠ hb := fun k hk e => own_ne h.own h.row (by decide) (by rw [hk, e])
  have hr0 := h.row.set 9 (.int .u64 N)
  have t0 : Turns (fun b => b = hb ∨ left.ownBlock = some b) w (w.setCell ⟨hb, 9, none⟩ (.int .u64 N)) := (Turns.refl _ _).setCell (fun _ => .inl rfl) _
  have t1 : Turns (fun b => left.ownBlock = some b) (w.setCell ⟨hb, 9, none⟩ (.int .u64 N)) w1 := Turns.of_grown hg (fun k hk _ => hk)
  have hr1 : Rw w1 hb _ 49 := hr0.turns t1 (fun e => hne' hb e rfl)
  have tt := t0.step t1 (fun b _ hb => .inr hb)
  have e9 : ((eat H0 m).1.map wv ++ [left, .int .u64 (m.length : Int)]).set 9 (.int .u64 N) = (eat H0 m).1.map wv ++ [left, .int .u64 N] := by
    rw [List.set_append_right _ _ (by simp [hl8])]; simp [hl8]
  rw [e9] at hr1
  have h8 : ((eat H0 m).1.map wv ++ [left, .int .u64 N])[8]? = some left := by rw [List.getElem?_append_right (by simp [hl8])]; simp [hl8]
  have hr2 := hr1.set 8 (.slice p1 ((eat H0 m).2.length + b.length) c1)
  have e8 : ((eat H0 m).1.map wv ++ [left, .int .u64 N]).set 8 (.slice p1 ((eat H0 m).2.length + b.length) c1) = (eat H0 m).1.map wv ++ [.slice p1 ((eat H0 m).2.length + b.length) c1, .int .u64 N] := by
    rw [List.set_append_right _ _ (by simp [hl8])]; simp [hl8]
  rw [e8] at hr2
  have hblk : ∀ ad, p1 = some ad → ad.block ≠ hb := fun ad had e => own_ne ho hr1 (by decide) (by rw [(hp1 ad had).2.2.2, e])
  refine ⟨p1, c1, hv1, ⟨hr1.cell h8, hr1.free 8⟩, tt, ?_⟩
  refine ⟨by rw [← hN]; exact hr2, hb1.turns ((Turns.refl (fun k => k = hb) _).setCell (fun _ => rfl) _) (fun ad had _ e => hblk ad had e), fun ad had _ e => hblk ad had e, (eat_append H0 m b).symm, hl8, by omega, tt.setCell (fun _ => .inl rfl) _⟩

set_option maxRecDepth 100000 in
set_option maxHeartbeats 1000000 in
theorem write_any (hb : Nat) (left : Value) (m b : List UInt8) (p : Option Addr) (cap : Nat) (w : World) (h : IsHash w hb left m) (hs : BytesOf w p b.length cap b) (hlen : m.length + b.length < 70368744177664)
    (hne : ∀ ad, p = some ad → 0 < b.length → ad.block ≠ hb) (hK : HasK w) (h0 : 0 < hb) :
    Calls Tryd.prog 19 #[.pointer (some ⟨hb, 0, none⟩), .slice p b.length cap] w fun en w' =>
      en = .returned (.tuple #[]) ∧ ∃ left', IsHash w' hb left' (m ++ b) ∧ Turns (fun k => k = hb ∨ left.ownBlock = some k) w w' ∧ (∀ k, left'.ownBlock = some k → w.heap.size ≤ k) := by
  obtain ⟨i0, hi0, hz0, hz1, hz2⟩ := info_parts Tryd.info5
  have H := Calm.hid h
  have HB := Calm.hid hs
  have HN := Calm.hid hne
  have HK := Calm.hid hK
  have hl8 := eat_words (s := H0) rfl m
  have cl : w.cell? ⟨hb, 8, none⟩ = some left := h.row.cell (by rw [List.getElem?_append_right (by simp [hl8])]; simp [hl8])
  have cn : w.cell? ⟨hb, 9, none⟩ = some (.int .u64 (m.length : Int)) := h.row.cell (by rw [List.getElem?_append_right (by simp [hl8])]; simp [hl8])
  have f8 := h.row.free 8
  have f9 := h.row.free 9
  have cap' := hs.max
  have le' := hs.le
  unfold maxLen at cap'
  have HS : Hid (∀ u, BytesOf (w.setCell ⟨hb, 9, none⟩ u) p b.length cap b) := fun u => hs.turns ((Turns.refl (fun k => k = hb) w).setCell (fun _ => rfl) u) hne
  have HL : Hid ((eat H0 m).2.length < 64) := eat_left H0 m
  have HLt : Hid (hb < w.heap.size) := h.row.lt
  clear h hs hne hK hl8
  go_enter Tryd.func19, Tryd.ntmps19
  go_wp2_with (at_builtin; refine wpList_append_any rfl (.tmp 20) (.tmp 21) 22 rfl 1 5 i0 (.int .u8 0) 1 1 Tryd.underlying22 hi0 hz0 hz1 hz2 rfl (by decide) _ _ _ rfl (own_setCell H.out.own (fun k hk e => own_ne H.out.own H.out.row (by decide) (by rw [hk]; exact congrArg some e)) _) p b.length cap (b.map bv) rfl (by simp) HB.out.nil (HS.out _).news (BytesOf.one _) ?_ ?_ ?_ ?_)
  case refine_1 => have := HL.out; unfold maxLen; omega
  case refine_2 => have := HL.out; omega
  case refine_3 => have := HLt.out; simp [World.setCell]; omega
  intro v1 w1 hown1 hg1
  have hnum : ((m.length : Int) + (b.length : Int)) = ((m ++ b).length : Int) := by simp
  have hW := wl_start H.out hg1 (by rw [← List.map_append] at hown1; exact hown1) hnum HL.out hlen
  clear hown1 hg1 HS HN cl cn f8 f9 hnum
  obtain ⟨p1, c1, hv1, hrow1, ht1, hWL⟩ := hW
  rw [hv1]
  have c8 : w1.cell? ⟨hb, 8, none⟩ = some left := hrow1.1
  have f8 : w1.frozen? ⟨hb, 8, none⟩ = false := hrow1.2
  clear hv1 hrow1
  go_wp2
  go_loopw [] (fun wr => ∃ s p k c l, WL hb (m ++ b) left.ownBlock (.int .u64 ((m ++ b).length : Int)) w s p k c l wr) (fun wr => leftLen hb wr)
  case atStart => exact ⟨_, _, _, _, _, hWL⟩
  case round =>
    clear hWL c8 f8 ht1
    obtain ⟨s, p, k, c, l, hL⟩ := hrel
    by_cases hlt : 64 ≤ k
    · have hlt' : (64 : Int) ≤ (k : Int) := by omega
      have c8 := hL.cell8
      have f8 := hL.row.free 8
      obtain ⟨bb, off, hp⟩ := hL.plain (by omega)
      subst hp
      have hkc := hL.bytes.le
      have hbd := hL.bound
      have hcm := hL.bytes.max
      unfold maxLen at hcm
      go_wp2_with fail
      have hln := hL.bytes.len
      have hkK : ∀ i, i < 64 → wr.cell? ⟨0, i, none⟩ = some (wv (K i)) := hL.hasK HK.out h0 (fun k hk e => by have := (H.out.own.lt k hk).1; omega)
      refine (mix_any hb bb off c s hL.words (l.take 64) (by simp [hln]; omega) (.slice (some ⟨bb, off, none⟩) k c) (.int .u64 ((m ++ b).length : Int)) wr hL.row (by omega) (fun j hj => by
        rw [hL.bytes.cell (by omega)]; simp [List.getD_eq_getElem?_getD, hj]) hkK).mono ?_
      rintro en w2 ⟨rfl, hr2, ht2⟩
      have c8' : w2.cell? ⟨hb, 8, none⟩ = some (.slice (some ⟨bb, off, none⟩) k c) := hr2.cell (by rw [List.getElem?_append_right (by simp [mix_length hL.words])]; simp [mix_length hL.words])
      have f8' := hr2.free 8
      clear c8 f8 hkK hlt' hln
      have hlt' : (64 : Int) ≤ (k : Int) := by omega
      by_cases hc : c = 64
      · subst hc
        obtain rfl : k = 64 := by omega
        go_wp2
        go_roundw
        case rel => exact ⟨_, _, _, _, _, hL.step (by omega) hr2 ht2 (some ⟨bb, off, none⟩) 0 ⟨by have := hL.bytes.len; simp; omega, by omega, by simp [maxLen], fun h => by simp at h, fun _ _ _ hj => by omega⟩ (fun ad had => by simp at had; subst had; rfl)⟩
        case measure => rw [(hL.step (by omega) hr2 ht2 (some ⟨bb, off, none⟩) 0 ⟨by have := hL.bytes.len; simp; omega, by omega, by simp [maxLen], fun h => by simp at h, fun _ _ _ hj => by omega⟩ (fun ad had => by simp at had; subst had; rfl)).length, hL.length]; omega
      · have hc' : (64 : Int) < (c : Int) := by omega
        go_wp2
        go_roundw
        case rel => exact ⟨_, _, _, _, _, hL.step (by omega) hr2 ht2 (some ⟨bb, off + 64, none⟩) (c - 64) (hL.bytes.drop (by omega)) (fun ad had => by simp at had; subst had; rfl)⟩
        case measure => rw [(hL.step (by omega) hr2 ht2 (some ⟨bb, off + 64, none⟩) (c - 64) (hL.bytes.drop (by omega)) (fun ad had => by simp at had; subst had; rfl)).length, hL.length]; omega
    · have hge : (k : Int) < 64 := by omega
      have c8 := hL.cell8
      have f8 := hL.row.free 8
      have hbd := hL.bound
      have HX := Calm.hid hL
      go_wp2_with (at_builtin; refine wpList_append_any rfl (.const (.slice none 0 0)) (.tmp 50) 22 rfl wr.heap.size 5 i0 (.int .u8 0) 1 1 Tryd.underlying22 hi0 hz0 hz1 hz2 rfl (by decide) _ _ _ rfl (World.ownsRow_nil _ _ _ _) p k c (l.map bv) rfl (by simp [HX.out.bytes.len]) HX.out.bytes.nil HX.out.bytes.news (BytesOf.one _) ?_ ?_ ?_ ?_)
      case refine_1 => have := HX.out.bytes.le; have := HX.out.bytes.max; omega
      case refine_2 => omega
      case refine_3 => exact Nat.le_refl _
      intro v2 w2 hown2 hg2
      have hE := wl_end hL (by omega) HLt.out hg2 (by simpa using hown2)
      clear hL c8 f8 hown2 hg2 HX
      obtain ⟨p2, c2, hv2, hc8, hf8, hfin⟩ := hE
      rw [hv2]
      go_wp2
      go_end0
      exact ⟨rfl, hfin⟩
end Go.Proofs.YtpbahoapjkmcjaaDoor
