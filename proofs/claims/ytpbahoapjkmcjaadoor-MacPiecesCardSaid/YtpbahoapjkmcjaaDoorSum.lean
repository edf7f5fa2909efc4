/-
  New and Hash.Sum: a new hash holds nothing; the sum is the digest of the bytes written; a nil hash answers the digest of none.
-/
import Derived.Test.YtpbahoapjkmcjaaDoorWrite
import Derived.Test.YtpbahoapjkmcjaaDoorCalmB
namespace Go.Proofs.YtpbahoapjkmcjaaDoor
open Go.RowKit Go.Sha Go.Calm

theorem new_any (w : World) : Calls Tryd.prog 18 #[] w fun en w' => en = .returned (.pointer (some ⟨w.heap.size, 0, none⟩)) ∧ IsHash w' w.heap.size (.slice none 0 0) [] ∧ Below w.heap.size w w' := by
  go_enter Tryd.func18, Tryd.ntmps18
  go_wp2
  go_ret
  refine ⟨rfl, ⟨?_, World.ownsRow_nil _ _ _ _⟩, (Below.refl _ _).alloc (Nat.le_refl _) _⟩
  exact Rw.new w _ 49

theorem two_new (w : World) (t : TypeId) (a b : Array Value) : Rw ((w.alloc (.cells a t)).alloc (.cells b t)) w.heap.size a.toList t ∧ Rw ((w.alloc (.cells a t)).alloc (.cells b t)) (w.heap.size + 1) b.toList t :=
  ⟨(Rw.new w a t).alloc _, by have := Rw.new (w.alloc (.cells a t)) b t; simpa using this⟩
def zero32 : List UInt8 := List.replicate 32 0
def arr (l : List UInt8) : Array Value := (l.map bv).toArray

set_option maxRecDepth 100000 in
theorem sum_nil (w : World) : Calls Tryd.prog 20 #[.pointer none] w fun en w' => en = .returned (.agg (arr zero32)) ∧ Below w.heap.size w w' := by
  go_enter Tryd.func20, Tryd.ntmps20
  go_wp2_with (refine wpList_load_rw rfl 25 (.tmp 3) rfl (w.heap.size + 1) rfl 25 _ _ (two_new _ _ _ _).2 Tryd.underlying25 rfl (by kernel_rfl) ?_; refine wpList_store_rw rfl 25 (.tmp 2) (.tmp 10) rfl w.heap.size _ rfl rfl 25 _ (two_new _ _ _ _).1 (by kernel_rfl) rfl (by simp [Value.oneCell']) ?_; intro w1 hr1 ht1; refine wpList_nil ?_)
  exact bodyPost_ret (results_cell_rw rfl rfl hr1 Tryd.underlying25 (by kernel_rfl)) rfl ⟨rfl, (((Turns.refl (fun _ => False) w).alloc _).alloc _ |>.step ht1 (fun b hb e => by subst e; exact absurd hb (Nat.lt_irrefl _))).below (fun _ _ h => h)⟩

theorem below_of_grown {w w1 : World} (h : w.drew.grownBy w1 (Value.ownBlock (.slice none 0 0))) : Below w.heap.size w w1 :=
  ⟨h.os, h.tape, h.output, h.size, fun k hk => h.block k hk (by simp [Value.ownBlock])⟩
/-- Sum, once the bytes that are left have been copied. -/
structure SumS (w : World) (hb : Nat) (m : List UInt8) (left : Value) (w1 : World) : Prop where
  res : Rw w1 w.heap.size (zero32.map bv) 25
  dig : Rw w1 (w.heap.size + 1) (zero32.map bv) 25
  own : w1.ownsRow (w.heap.size + 2) 5 1 left (eat H0 m).2.length ((eat H0 m).2.map bv)
  turns : Turns (fun _ => False) w w1
theorem sum_start {w w1 : World} {hb : Nat} {m : List UInt8} {left left' : Value} {a b : Array Value} (_h : IsHash w hb left m) (hg : ((w.alloc (.cells a 25)).alloc (.cells b 25)).drew.grownBy w1 (Value.ownBlock (.slice none 0 0)))
    (ho : w1.ownsRow (w.heap.size + 2) 5 1 left' (eat H0 m).2.length ((eat H0 m).2.map bv)) (ha : a.toList = zero32.map bv := by rfl) (hbb : b.toList = zero32.map bv := by rfl) : SumS w hb m left' w1 := by
  have hb1 := below_of_grown hg
  have := two_new w 25 a b
  rw [ha, hbb] at this
  exact ⟨this.1.below hb1, this.2.below hb1, ho, ((Turns.refl _ _).alloc _).alloc _ |>.trans (Turns.of_below hb1)⟩

def sliceLen : Value → Nat | .slice _ n _ => n | _ => 0
/-- Sum's loops: the result's and the digest's rows, the copy of the hash, the bytes behind. -/
structure S1 (w : World) (ob : Nat) (left : Value) (m : List UInt8) (t : Value) (T : List UInt8) (wr : World) : Prop where
  res : Rw wr w.heap.size (zero32.map bv) 25
  dig : Rw wr (w.heap.size + 1) (zero32.map bv) 25
  hash : IsHash wr ob left m
  tail : wr.ownsRow (ob + 1) 5 1 t T.length (T.map bv)
  turns : Turns (fun _ => False) w wr
  lt : w.heap.size + 1 < ob
  left_ : ∀ k, left.ownBlock = some k → w.heap.size + 2 ≤ k ∧ k < ob
theorem S1.cell8 {w wr : World} {ob : Nat} {left t : Value} {m T : List UInt8} (h : S1 w ob left m t T wr) : wr.cell? ⟨ob, 8, none⟩ = some left := by
  have hl8 := eat_words (s := H0) rfl m
  exact h.hash.row.cell (by rw [List.getElem?_append_right (by simp [hl8])]; simp [hl8])
theorem S1_start {w w1 : World} {hb : Nat} {m : List UInt8} {left left' : Value} {x0 x1 x2 x3 x4 x5 x6 x7 : UInt32} (h : SumS w hb m left w1) (he : (eat H0 m).1 = [x0, x1, x2, x3, x4, x5, x6, x7]) (_h : IsHash w hb left' m) :
    S1 w w1.heap.size left m (.slice (some ⟨w1.heap.size + 1, 0, none⟩) 1 1) (128 :: List.replicate 0 0) ((w1.alloc (.cells #[wv x0, wv x1, wv x2, wv x3, wv x4, wv x5, wv x6, wv x7, left, .int .u64 (m.length : Int)] 49)).alloc (.cells #[.int .u8 128] 5)) := by
  have hnew := Rw.new w1 #[wv x0, wv x1, wv x2, wv x3, wv x4, wv x5, wv x6, wv x7, left, .int .u64 (m.length : Int)] 49
  refine ⟨(h.res.alloc _).alloc _, (h.dig.alloc _).alloc _, ⟨?_, own_base ((h.own.alloc _).alloc _) (fun k hk => by have := (h.own.lt k hk).1; omega)⟩, ?_, (h.turns.alloc _).alloc _, h.dig.lt, fun k hk => h.own.lt k hk⟩
  · have := hnew.alloc (.cells #[.int .u8 128] 5)
    rw [he]
    exact this
  · refine ⟨rfl, .inr ⟨w1.heap.size + 1, 1, #[.int .u8 128], rfl, Nat.le_refl _, ?_, Nat.le_refl _, by simp [maxLen], rfl, rfl⟩⟩
    have := Rw.new (w1.alloc (.cells #[wv x0, wv x1, wv x2, wv x3, wv x4, wv x5, wv x6, wv x7, left, .int .u64 (m.length : Int)] 49)) #[.int .u8 128] 5
    simpa [Rw] using this
theorem S1.cell9 {w wr : World} {ob hb : Nat} {left left' t : Value} {m T : List UInt8} (h : S1 w ob left m t T wr) (h' : IsHash w hb left' m) : wr.cell? ⟨hb, 9, none⟩ = some (.int .u64 (m.length : Int)) := by
  have hl8 := eat_words (s := H0) rfl m
  exact (h'.row.turns h.turns (fun h => h)).cell (by rw [List.getElem?_append_right (by simp [hl8])]; simp [hl8])
theorem S1.bytes {w wr : World} {ob : Nat} {left : Value} {m T : List UInt8} {p : Option Addr} {n d : Nat} (h : S1 w ob left m (.slice p n d) T wr) : BytesOf wr p n d T ∧ (∀ ad, p = some ad → 0 < T.length → ad.block ≠ ob) := by
  obtain ⟨p', d', hv, hb, ho⟩ := BytesOf.own h.tail
  simp only [Value.slice.injEq] at hv
  obtain ⟨rfl, rfl, rfl⟩ := hv
  exact ⟨hb, fun ad had _ e => by have := (ho ad had).2.2.1; omega⟩
theorem S1.hasK {w wr : World} {ob : Nat} {left t : Value} {m T : List UInt8} (h : S1 w ob left m t T wr) (hK : HasK w) : HasK wr := hK.turns h.turns (fun h => h)
/-- The third loop: the digest's bytes. -/
structure S3 (w : World) (ob : Nat) (ws : List UInt32) (i : Nat) (wr : World) : Prop where
  res : Rw wr w.heap.size (zero32.map bv) 25
  dig : Rw wr (w.heap.size + 1) (((outB ws).take i ++ zero32.drop i).map bv) 25
  hash : ∃ l n, Rw wr ob (ws.map wv ++ [l, n]) 49
  turns : Turns (fun _ => False) w wr
  lt : w.heap.size + 1 < ob
theorem S3_start {w wr w2 : World} {ob : Nat} {left t left2 : Value} {m T : List UInt8} (h : S1 w ob left m t T wr) (hh : IsHash w2 ob left2 (m ++ T)) (ht : Turns (fun k => k = ob ∨ left.ownBlock = some k) wr w2) : S3 w ob (eat H0 (m ++ T)).1 0 w2 := by
  have hlt := h.lt
  have hne : ∀ k, k ≤ w.heap.size + 1 → ¬ (k = ob ∨ left.ownBlock = some k) := fun k hk e => by
    rcases e with e | e
    · omega
    · have := (h.left_ k e).1; omega
  exact ⟨h.res.turns ht (hne _ (by omega)), by simpa using h.dig.turns ht (hne _ (by omega)), ⟨_, _, hh.row⟩, h.turns.step ht (fun k hk e => hne k (by omega) e), h.lt⟩
theorem S3.word {w wr : World} {ob i j : Nat} {ws : List UInt32} (h : S3 w ob ws i wr) (h8 : ws.length = 8) (hj : j < 8) : wr.cell? ⟨ob, j, none⟩ = some (wv (ws.getD j 0)) := by
  obtain ⟨l, n, hr⟩ := h.hash
  refine hr.cell ?_
  have : j < ws.length := by omega
  rw [List.getElem?_append_left (by simpa using this)]
  simp [this]
theorem S3.at_ {w wr : World} {ob i : Nat} {ws : List UInt32} (h : S3 w ob ws i wr) (hi : i < 32) : wr.cell? ⟨w.heap.size + 1, i, none⟩ = some (bv 0) := by
  refine h.dig.cell ?_
  rw [List.getElem?_map, List.getElem?_append_right (by simp [outB_length]; omega)]
  have hm : min i 32 = i := by omega
  have hz : (zero32.drop i)[0]? = some 0 := by
    unfold zero32
    rw [List.drop_replicate]
    obtain ⟨k, hk⟩ : ∃ k, 32 - i = k + 1 := ⟨31 - i, by omega⟩
    rw [hk]; rfl
  rw [List.length_take, outB_length, hm, Nat.sub_self, hz]; rfl
theorem S3.step {w wr : World} {ob i : Nat} {ws : List UInt32} (h : S3 w ob ws i wr) (hi : i < 32) : S3 w ob ws (i + 1) (wr.setCell ⟨w.heap.size + 1, i, none⟩ (bv (UInt8.ofNat ((ws.getD (i / 4) 0).toNat / 2 ^ (24 - i % 4 * 8))))) := by
  obtain ⟨l, n, hr⟩ := h.hash
  have hlt := h.lt
  refine ⟨h.res.set_other (by simp) _, ?_, ⟨l, n, hr.set_other (by simp; omega) _⟩, h.turns.setCell (fun hc => by simp at hc; omega) _, h.lt⟩
  have := h.dig.set i (bv (UInt8.ofNat ((ws.getD (i / 4) 0).toNat / 2 ^ (24 - i % 4 * 8))))
  rw [← List.map_set, half_set (outB_length ws) (n := 32) (by simp [zero32]) hi (outB_get ws i hi)] at this
  exact this
theorem S1.grow {w wr w2 : World} {ob : Nat} {left t v2 : Value} {m T : List UInt8} {x : UInt8} {o : Obj} (h : S1 w ob left m t T wr) (hg : (wr.alloc o).grownBy w2 t.ownBlock)
    (ho : w2.ownsRow (ob + 1) 5 1 v2 (T.length + 1) (T.map bv ++ [bv x])) : ∃ p2 c2, v2 = .slice p2 (T.length + 1) c2 ∧ S1 w ob left m (.slice p2 (T.length + 1) c2) (T ++ [x]) w2 := by
  have ho' : w2.ownsRow (ob + 1) 5 1 v2 (T ++ [x]).length ((T ++ [x]).map bv) := by simpa using ho
  obtain ⟨p2, c2, hv2, _, _⟩ := BytesOf.own ho'
  rw [List.length_append] at hv2
  simp only [List.length_singleton] at hv2
  subst hv2
  have hlt := h.lt
  have hob := h.hash.row.lt
  have t1 : Turns (fun k => t.ownBlock = some k) wr w2 := ((Turns.refl _ wr).alloc o).step (Turns.of_grown (R := fun k => t.ownBlock = some k) hg (fun k hk _ => hk)) (fun _ _ h => h)
  have hne : ∀ k, k ≤ ob → ¬ t.ownBlock = some k := fun k hk e => by have := (h.tail.lt k e).1; omega
  refine ⟨p2, c2, rfl, h.res.turns t1 (hne _ (by omega)), h.dig.turns t1 (hne _ (by omega)), ⟨h.hash.row.turns t1 (hne _ (Nat.le_refl _)), own_turns h.hash.own t1 (fun k hk => hne k (by have := (h.left_ k hk).2; omega))⟩, ho', ?_, h.lt, h.left_⟩
  exact h.turns.step t1 (fun k hk e => hne k (by omega) e)
theorem zeros_le (n : Nat) : zeros n ≤ 63 := by unfold zeros; omega
theorem zeros_go {m : List UInt8} {j n : Nat} (hj : j < zeros m.length) (hn : n = j + 1) : ((((eat H0 m).2.length : Int) + (n : Int)) % 64 != 56) = true := by
  have := eat_left_mod H0 m
  have hm := Nat.mod_lt m.length (show 0 < 64 by decide)
  rw [bne_iff_ne, ← Int.natCast_add]
  unfold zeros at hj
  rw [this]
  omega
theorem zeros_stop {m : List UInt8} {j n : Nat} (hj : j = zeros m.length) (hn : n = j + 1) : ((((eat H0 m).2.length : Int) + (n : Int)) % 64 != 56) = false := by
  have := eat_left_mod H0 m
  have hm := Nat.mod_lt m.length (show 0 < 64 by decide)
  rw [bne_eq_false_iff_eq, ← Int.natCast_add]
  unfold zeros at hj
  rw [this]
  omega
theorem one_news (w : World) (x : Value) (t : TypeId) : ∀ ad, (some ⟨w.heap.size, 0, none⟩ : Option Addr) = some ad → ∀ j u, [x][j]? = some u → (w.alloc (.cells #[x] t)).cell? (ad.add j) = some u := by
  intro ad had j u hu
  simp at had; subst had
  match j, hu with
  | 0, hu =>
    simp at hu; subst hu
    rw [add_plain]
    exact (Rw.new w #[x] t).cell rfl

set_option maxRecDepth 100000 in
set_option maxHeartbeats 1000000 in
theorem sum_any (hb : Nat) (left : Value) (m : List UInt8) (w : World) (h : IsHash w hb left m) (hlen : m.length < 35184372088832) (hK : HasK w) :
    Calls Tryd.prog 20 #[.pointer (some ⟨hb, 0, none⟩)] w fun en w' => en = .returned (.agg (arr (digest m))) ∧ Below w.heap.size w w' := by
  obtain ⟨i0, hi0, hz0, hz1, hz2⟩ := info_parts Tryd.info5
  obtain ⟨x0, x1, x2, x3, x4, x5, x6, x7, hse⟩ := eight (eat_words (s := H0) rfl m)
  have HSE := Calm.hid hse
  obtain ⟨p, cp, hleft, hby, _⟩ := BytesOf.own h.own
  subst hleft
  have HBY := Calm.hid hby
  have HL : Hid ((eat H0 m).2.length < 64) := eat_left H0 m
  clear hby
  have hrk : ∀ (a b : Array Value) (k : Kept ((w.alloc (.cells a 25)).alloc (.cells b 25))), Rw k.world hb ([wv x0, wv x1, wv x2, wv x3, wv x4, wv x5, wv x6, wv x7] ++ [.slice p (eat H0 m).2.length cp, .int .u64 (m.length : Int)]) 49 := fun a b k => by
    have := h.row
    rw [hse] at this
    exact ((this.alloc _).alloc _).below k.below
  have c0 : ∀ (a b : Array Value) (k : Kept ((w.alloc (.cells a 25)).alloc (.cells b 25))), k.world.cell? ⟨hb, 0, none⟩ = some (wv x0) := fun a b k => (hrk a b k).cell rfl
  have c1 : ∀ (a b : Array Value) (k : Kept ((w.alloc (.cells a 25)).alloc (.cells b 25))), k.world.cell? ⟨hb, 1, none⟩ = some (wv x1) := fun a b k => (hrk a b k).cell rfl
  have c2 : ∀ (a b : Array Value) (k : Kept ((w.alloc (.cells a 25)).alloc (.cells b 25))), k.world.cell? ⟨hb, 2, none⟩ = some (wv x2) := fun a b k => (hrk a b k).cell rfl
  have c3 : ∀ (a b : Array Value) (k : Kept ((w.alloc (.cells a 25)).alloc (.cells b 25))), k.world.cell? ⟨hb, 3, none⟩ = some (wv x3) := fun a b k => (hrk a b k).cell rfl
  have c4 : ∀ (a b : Array Value) (k : Kept ((w.alloc (.cells a 25)).alloc (.cells b 25))), k.world.cell? ⟨hb, 4, none⟩ = some (wv x4) := fun a b k => (hrk a b k).cell rfl
  have c5 : ∀ (a b : Array Value) (k : Kept ((w.alloc (.cells a 25)).alloc (.cells b 25))), k.world.cell? ⟨hb, 5, none⟩ = some (wv x5) := fun a b k => (hrk a b k).cell rfl
  have c6 : ∀ (a b : Array Value) (k : Kept ((w.alloc (.cells a 25)).alloc (.cells b 25))), k.world.cell? ⟨hb, 6, none⟩ = some (wv x6) := fun a b k => (hrk a b k).cell rfl
  have c7 : ∀ (a b : Array Value) (k : Kept ((w.alloc (.cells a 25)).alloc (.cells b 25))), k.world.cell? ⟨hb, 7, none⟩ = some (wv x7) := fun a b k => (hrk a b k).cell rfl
  have c8 : ∀ (a b : Array Value) (k : Kept ((w.alloc (.cells a 25)).alloc (.cells b 25))), k.world.cell? ⟨hb, 8, none⟩ = some (.slice p (eat H0 m).2.length cp) := fun a b k => (hrk a b k).cell rfl
  have c9 : ∀ (a b : Array Value) (k : Kept ((w.alloc (.cells a 25)).alloc (.cells b 25))), k.world.cell? ⟨hb, 9, none⟩ = some (.int .u64 (m.length : Int)) := fun a b k => (hrk a b k).cell rfl
  have H := Calm.hid h
  have HK := Calm.hid hK
  clear h hK hse hrk
  go_enter Tryd.func20, Tryd.ntmps20
  go_wp2
  refine Calm.region_sk [true, true, true, true, true, true, true, true, false, true, true, true, true, false, false, false] (by kernel_rfl) (by kernel_rfl) ?_
  simp only [Calm.heads, Calm.tails]
  repeat (go_big_quiet_step (fail))
  refine wpQuiet_nil ?_
  clear c0 c1 c2 c3 c4 c5 c6 c7 c8 c9
  refine wpC_step (wpList_append_any rfl (.const (.slice none 0 0)) (.tmp 18) 22 rfl (w.heap.size + 2) 5 i0 (.int .u8 0) 1 1 Tryd.underlying22 hi0 hz0 hz1 hz2 rfl (by decide) _ _ _ rfl (World.ownsRow_nil _ _ _ _) p _ cp ((eat H0 m).2.map bv) rfl (by simp) HBY.out.nil ((((HBY.out.alloc _).alloc _).drewN 1).news) (BytesOf.one _) ?_ ?_ ?_ ?_)
  · have := HL.out; unfold maxLen; omega
  · have := HL.out; omega
  · simp
  intro v1 w1 hown1 hg1
  obtain ⟨p1, c1, hv1, hby1, _⟩ := BytesOf.own (l := (eat H0 m).2) (by simpa using hown1)
  subst hv1
  have hT := sum_start H.out hg1 (by simpa using hown1)
  have hB1 := Calm.hid (below_of_grown hg1)
  clear hg1 hown1 hby1
  refine wpList_nil ⟨rfl, rfl, ⟨⟨w1, hB1.out⟩, rfl⟩, ?_⟩
  refine wpC_step ?_
  go_wp2
  refine ⟨⟨⟨w1, hB1.out⟩, rfl⟩, ?_⟩
  refine wpC_step ?_
  go_wp2
  refine ⟨⟨⟨_, hB1.out.alloc (by have := hB1.out.size; simpa using this) _⟩, rfl⟩, ?_⟩
  refine wpC_step ?_
  go_wp2
  refine ⟨⟨⟨_, hB1.out.alloc (by have := hB1.out.size; simpa using this) _⟩, rfl⟩, ?_⟩
  refine wpC_nil ?_
  go_wp2
  have hS := S1_start hT HSE.out (hb := hb) H.out
  clear hT hB1
  go_loopw [5] (fun t wr => ∃ j p n c, t = .slice p n c ∧ j ≤ zeros m.length ∧ n = j + 1 ∧ S1 w w1.heap.size (.slice p1 (eat H0 m).2.length c1) m (.slice p n c) (128 :: List.replicate j 0) wr) (fun t _ => 66 - sliceLen t)
  case atStart => exact ⟨0, _, _, _, rfl, Nat.zero_le _, rfl, hS⟩
  case round =>
    clear hS
    obtain ⟨j, pt, nt, ct, rfl, hj, hn, hS⟩ := hrel
    have c8 := hS.cell8
    have hL64 := HL.out
    have hzl : zeros m.length ≤ 63 := zeros_le _
    have hnt : nt ≤ 64 := by omega
    by_cases hlt : j < zeros m.length
    · have hcond : ((((eat H0 m).2.length : Int) + (nt : Int)) % 64 != 56) = true := zeros_go hlt hn
      have HX := Calm.hid hS
      have HN := Calm.hid hn
      clear hS hn
      go_wp2_with (at_builtin; refine wpList_append_any rfl (.tmp 37) (.tmp 38) 22 rfl (w1.heap.size + 1) 5 i0 (.int .u8 0) 1 1 Tryd.underlying22 hi0 hz0 hz1 hz2 rfl (by decide) _ _ _ rfl (HX.out.tail.alloc _) (some ⟨wr.heap.size, 0, none⟩) 1 1 [bv 0] rfl rfl (by simp) (one_news _ _ _) (by simp [Value.oneCell']) ?_ ?_ ?_ ?_)
      case refine_1 => simp [maxLen]; omega
      case refine_2 => simp; omega
      case refine_3 => have := HX.out.hash.row.lt; simp; omega
      intro v2 w2 hown2 hg2
      obtain ⟨p2, c2, hv2, hS2⟩ := HX.out.grow (x := 0) hg2 (by simpa using hown2)
      clear hown2 hg2 c8
      rw [hv2]
      go_wp2
      go_roundw
      case rel => exact ⟨j + 1, _, _, _, rfl, by omega, by simp, by rw [List.replicate_succ']; exact hS2⟩
      case measure => simp [sliceLen, HN.out]; omega
    · have hcond : ((((eat H0 m).2.length : Int) + (nt : Int)) % 64 != 56) = false := zeros_stop (by omega) hn
      have HN : Hid (j = zeros m.length) := show j = zeros m.length by omega
      clear hn hj hlt
      rw [HN.out] at hS
      have hS2 := hS
      clear hS
      go_wp2
      clear c8
      go_loopw [5, 6] (fun t c wr => ∃ (i : Nat) (p : Option Addr) (n d : Nat), t = .slice p n d ∧ i ≤ 8 ∧ c = .int .i64 (56 - 8 * (i : Int)) ∧ S1 w w1.heap.size (.slice p1 (eat H0 m).2.length c1) m (.slice p n d) (128 :: List.replicate (zeros m.length) 0 ++ (lenB m.length).take i) wr) (fun _ c _ => (intOf c + 8).toNat)
      case atStart => exact ⟨0, _, _, _, rfl, by omega, rfl, by simpa using hS2⟩
      case round =>
        clear hS2 hcond
        obtain ⟨i, p4, n4, d4, rfl, hi, rfl, hS⟩ := hrel
        have c9 : wr.cell? ⟨hb, 9, none⟩ = some (.int .u64 (m.length : Int)) := hS.cell9 H.out
        by_cases hlt : i < 8
        · have h56 : (0 : Int) ≤ 56 - 8 * (i : Int) := by omega
          have HX := Calm.hid hS
          clear hS
          go_wp2_with (at_builtin; refine wpList_append_any rfl (.tmp 44) (.tmp 53) 22 rfl (w1.heap.size + 1) 5 i0 (.int .u8 0) 1 1 Tryd.underlying22 hi0 hz0 hz1 hz2 rfl (by decide) _ _ _ rfl (HX.out.tail.alloc _) (some ⟨wr.heap.size, 0, none⟩) 1 1 [_] rfl rfl (by simp) (one_news _ _ _) (by simp [Value.oneCell']) ?_ ?_ ?_ ?_)
          case refine_1 => simp [maxLen, lenB_length]; omega
          case refine_2 => simp [lenB_length]; omega
          case refine_3 => have := HX.out.hash.row.lt; simp; omega
          intro v2 w2 hown2 hg2
          have e : ((m.length : Int) * 8 / 2 ^ (56 - 8 * i) % 256) = B8 (UInt8.ofNat (m.length * 8 / 2 ^ (56 - 8 * i))) := by rw [← byte_ofNat]; simp
          rw [e] at hown2
          obtain ⟨p5, c5, hv5, hS5⟩ := HX.out.grow (x := UInt8.ofNat (m.length * 8 / 2 ^ (56 - 8 * i))) hg2 (by simpa using hown2)
          clear e hown2 hg2 c9
          rw [hv5]
          go_wp2
          go_roundw
          case rel => exact ⟨i + 1, _, _, _, rfl, by omega, by go_num, by rw [lenB_take _ _ hlt, ← List.append_assoc]; exact hS5⟩
          case measure => simp [intOf]; omega
        · have h56 : 56 - 8 * (i : Int) < 0 := by omega
          have HI : Hid (i = 8) := show i = 8 by omega
          have hT : S1 w w1.heap.size (.slice p1 (eat H0 m).2.length c1) m (.slice p4 n4 d4) (padOf m.length) wr := by
            rw [HI.out, List.take_of_length_le (by simp [lenB_length])] at hS; exact hS
          obtain ⟨hby, hne⟩ := hT.bytes
          clear hS c9
          have hn4 := hby.len
          subst hn4
          have HT := Calm.hid hT
          have HBt := Calm.hid hby
          have HNe := Calm.hid hne
          clear hT hby hne
          go_wp2_with fail
          refine (write_any w1.heap.size _ m (padOf m.length) p4 d4 wr HT.out.hash HBt.out (by simp [padOf, lenB_length]; omega) HNe.out (HT.out.hasK HK.out) (by have := HT.out.lt; omega)).mono ?_
          rintro en w2 ⟨rfl, left2, hh2, ht2, _⟩
          have h3 := S3_start HT.out hh2 ht2
          clear hh2 ht2 HBt HNe HT
          go_wp2
          clear hL64 hzl hnt h56 hi hlt
          obtain ⟨ws, hws⟩ : ∃ ws, ws = (eat H0 (m ++ padOf m.length)).1 := ⟨_, rfl⟩
          have HW := Calm.hid hws
          rw [← hws] at h3
          have HW8 : Hid (ws.length = 8) := by rw [hws]; exact eat_words rfl _
          clear hws
          go_loopw [58] (fun c wr => ∃ i : Nat, i ≤ 32 ∧ c = .int .i64 i ∧ S3 w w1.heap.size ws i wr) (fun c _ => 32 - (intOf c).toNat)
          case atStart => exact ⟨0, by omega, rfl, h3⟩
          case round =>
            clear h3
            obtain ⟨i, hi, rfl, hS⟩ := hrel
            by_cases hlt : i < 32
            · obtain ⟨x, hx⟩ : ∃ x, x = ws.getD (i / 4) 0 := ⟨_, rfl⟩
              have HXX := Calm.hid hx
              have c0 : wr.cell? ⟨w1.heap.size, i / 4, none⟩ = some (wv x) := by rw [hx]; exact hS.word HW8.out (by omega)
              have c1 := hS.at_ hlt
              have f1 := hS.dig.free i
              clear hx
              go_wp2
              go_roundw
              case rel => exact ⟨i + 1, by omega, by go_num, by rw [shr_byte, HXX.out]; exact hS.step hlt⟩
              case measure => simp [intOf]; omega
            · have HI2 : Hid (i = 32) := show i = 32 by omega
              have hS2 : S3 w w1.heap.size ws 32 wr := by rw [← HI2.out]; exact hS
              clear hS
              have hd : Rw wr (w.heap.size + 1) ((outB ws).map bv) 25 := by
                have := hS2.dig
                rwa [List.take_of_length_le (by rw [outB_length]; omega), List.drop_of_length_le (by simp [zero32]), List.append_nil] at this
              go_wp2_with (refine wpList_load_rw rfl 25 (.tmp 3) rfl (w.heap.size + 1) rfl 25 _ _ hd Tryd.underlying25 rfl (by rw [List.length_map, outB_length]; kernel_rfl) ?_; refine wpList_store_rw rfl 25 (.tmp 2) (.tmp 77) rfl w.heap.size _ rfl rfl 25 _ hS2.res (by rw [List.length_map, outB_length]; kernel_rfl) (by rw [List.length_map, List.length_map, outB_length]; rfl) (BytesOf.one _) ?_; intro w9 hr9 ht9; refine wpList_nil ?_)
              refine bodyPost_ret (results_cell_rw rfl rfl hr9 Tryd.underlying25 (by rw [List.length_map, outB_length]; kernel_rfl)) rfl ⟨?_, (hS2.turns.step ht9 (fun b hb e => by subst e; exact absurd hb (Nat.lt_irrefl _))).below (fun _ _ h => h)⟩
              rw [HW.out]; rfl
end Go.Proofs.YtpbahoapjkmcjaaDoor
