/-
  value(s): the number that digits are; or that one is none.
-/
import Derived.Test.YtmpcknjmdealgaaDoorDigits
import Derived.Test.YtmpcknjmdealgaaDoorHeap
namespace Go.Proofs.YtmpcknjmdealgaaDoor
open Go.RowKit Go.Sha Go.Calm Go.Shelf
attribute [local go_sem] Oper.semAt_some

theorem digits_stops (n : Nat) (hn : 1 ≤ n) (Bn : Nat) (bs : List UInt8) (hmax : bs.length ≤ 4611686018427387904) (w : World) (hb : Bn < w.heap.size) (hBs : w.cell? ⟨Bn, 0, none⟩ = some (.string ⟨bs.toArray⟩)) :
    SeqStopsK Fence.wide n Tryd.prog 24 #[.pointer (some ⟨Bn, 0, none⟩)] (fun x : UInt8 => #[Value.int .u64 (dval x), .bool (isDig x)]) (KeepsStr Bn) (fun ys => ys = bs) (fun pre => pre <+: bs) bs.length w := fun l J Jx W hW hJ _ hY h0 =>
  digits1_in n hn l Bn bs hmax _ J Jx hJ hY W ((hW.cell (p := ⟨Bn, 0, none⟩) hb).trans hBs) h0
theorem digits_in (n : Nat) (s : ByteArray) (w : World) : CallsIn Fence.wide n Tryd.prog 22 #[.string s] w fun e w' => e = .returned (.func (.func 24) #[] #[.pointer (some ⟨w.heap.size, 0, none⟩)]) ∧ w' = w.alloc (.cells #[.string s] 9) := by
  refine callsIn_of_wp Tryd.func22 rfl trivial ?_ rfl
  simp only [Tryd.ntmps22, List.size_toArray, List.length_cons, List.length_nil, Nat.reduceAdd, Nat.reduceSub, Array.replicate_succ, Array.replicate_zero, List.push_toArray, List.append_toArray, List.nil_append, List.cons_append]
  gi_wp2
  go_ret
  exact ⟨rfl, rfl⟩
/-- What digits count, modulo 2^64. -/
def accW (l : List UInt8) : Int := l.foldl (fun v c => IntKind.u64.wrap (IntKind.u64.wrap (10 * v) + dval c)) 0
theorem accW_snoc (l : List UInt8) (c : UInt8) : accW (l ++ [c]) = IntKind.u64.wrap (IntKind.u64.wrap (10 * accW l) + dval c) := by simp [accW]
def valOf (bs : List UInt8) : Value := if bs.all isDig then .tuple #[.int .u64 (accW bs), .bool true] else .tuple #[.int .u64 0, .bool false]

theorem cell_new1 (w : World) (v : Value) (t : TypeId) : (w.alloc (.cells #[v] t)).cell? ⟨w.heap.size, 0, none⟩ = some v ∧ (w.alloc (.cells #[v] t)).frozen? ⟨w.heap.size, 0, none⟩ = false :=
  ⟨(Rw.new w #[v] t).cell rfl, (Rw.new w #[v] t).free 0⟩

theorem set_two {W : World} {a b : Nat} {x y : Value} (u v : Value) (hab : a ≠ b) (h0 : W.cell? ⟨a, 0, none⟩ = some x) (h1 : W.cell? ⟨b, 0, none⟩ = some y) :
    ((W.setCell ⟨a, 0, none⟩ u).setCell ⟨b, 0, none⟩ v).cell? ⟨a, 0, none⟩ = some u ∧ ((W.setCell ⟨a, 0, none⟩ u).setCell ⟨b, 0, none⟩ v).cell? ⟨b, 0, none⟩ = some v := by
  have hb1 : (W.setCell ⟨a, 0, none⟩ u).cell? ⟨b, 0, none⟩ = some y := (World.cell?_of_block (Below.heap_setCell W ⟨a, 0, none⟩ _ b (fun e => hab e.symm))).trans h1
  exact ⟨(World.cell?_of_block (Below.heap_setCell _ ⟨b, 0, none⟩ _ a hab)).trans (World.cell?_setCell_same' _ _ _ (by rw [h0]; rfl)), World.cell?_setCell_same' _ _ _ (by rw [hb1]; rfl)⟩
theorem all_false {l bs : List UInt8} (h : l <+: bs) (hy : ∃ y ∈ l, isDig y = false) : bs.all isDig = false := by
  obtain ⟨y, hm, hd⟩ := hy
  rw [List.all_eq_false]
  exact ⟨y, h.subset hm, by rw [hd]; simp⟩

set_option maxRecDepth 100000 in
set_option maxHeartbeats 1000000 in
theorem value_in (bs : List UInt8) (hmax : bs.length ≤ 4611686018427387904) (w : World) :
    CallsIn Fence.wide 5 Tryd.prog 18 #[.string ⟨bs.toArray⟩] w fun e w' => e = .returned (valOf bs) ∧ Below w.heap.size w w' := by
  obtain ⟨s, hs⟩ : ∃ s : ByteArray, s = ⟨bs.toArray⟩ := ⟨_, rfl⟩
  rw [← hs]
  have HS := Calm.hid hs
  clear hs
  refine callsIn_of_wp_marks Tryd.func18 rfl trivial ?_ rfl
  simp only [Tryd.ntmps18, List.size_toArray, List.length_cons, List.length_nil, Nat.reduceAdd, Nat.reduceSub, Array.replicate_succ, Array.replicate_zero, List.push_toArray, List.append_toArray, List.nil_append, List.cons_append]
  gi_wp2_with (refine ⟨trivial, ?_⟩; gi_at_call 22; refine (digits_in 4 _ _).mono ?_; rintro e w' ⟨rfl, rfl⟩)
  obtain ⟨w1, hw1⟩ : ∃ w1, w1 = w.alloc (.cells #[.int .u64 0] 22) := ⟨_, rfl⟩
  obtain ⟨w2, hw2⟩ : ∃ w2, w2 = w1.alloc (.cells #[.bool false] 4) := ⟨_, rfl⟩
  obtain ⟨w3, hw3⟩ : ∃ w3, w3 = w2.alloc (.cells #[.int .u64 0] 22) := ⟨_, rfl⟩
  obtain ⟨w4, hw4⟩ : ∃ w4, w4 = w3.alloc (.cells #[.string s] 9) := ⟨_, rfl⟩
  rw [← hw1, ← hw2, ← hw3, ← hw4]
  have hs1 : w1.heap.size = w.heap.size + 1 := by rw [hw1]; simp
  have hs2 : w2.heap.size = w.heap.size + 1 + 1 := by rw [hw2]; simp [hs1]
  have hs3 : w3.heap.size = w.heap.size + 1 + 1 + 1 := by rw [hw3]; simp [hs2]
  have hs4 : w4.heap.size = w.heap.size + 1 + 1 + 1 + 1 := by rw [hw4]; simp [hs3]
  have c0 : Rw w4 w.heap.size [.int .u64 0] 22 := by rw [hw4, hw3, hw2, hw1]; exact (((Rw.new w _ 22).alloc _).alloc _).alloc _
  have c1 : Rw w4 (w.heap.size + 1) [.bool false] 4 := by rw [← hs1, hw4, hw3, hw2]; exact ((Rw.new w1 _ 4).alloc _).alloc _
  have c2 : Rw w4 (w.heap.size + 1 + 1) [.int .u64 0] 22 := by rw [← hs2, hw4, hw3]; exact (Rw.new w2 _ 22).alloc _
  have c3 : Rw w4 (w.heap.size + 1 + 1 + 1) [.string s] 9 := by rw [← hs3, hw4]; exact Rw.new w3 _ 9
  have hB0 : Below w.heap.size w w4 := by rw [hw4, hw3, hw2, hw1]; exact ((((Below.refl _ w).alloc (Nat.le_refl _) _).alloc (by simp) _).alloc (by simp; omega) _).alloc (by simp; omega) _
  clear hw1 hw2 hw3 hw4
  refine wpIn_rangeFunc_ownF rfl (by decide) (gf := 24) (lb := #[.pointer (some ⟨w.heap.size + 1 + 1 + 1, 0, none⟩)]) rfl trivial (enters_of Tryd.func24 (by kernel_rfl) rfl)
    (digits_stops 4 (by decide) (w.heap.size + 1 + 1 + 1) bs hmax w4 (by omega) (by rw [← HS.out]; exact c3.cell rfl)) (fun h k => Eq.trans k h) (fun W l o o' hl h _ _ => by
      exact World.cell?_of_block ((belowK_b (w := w4) (Nat.le_refl _) W l o o' hl h ‹_› ‹_›).block (w.heap.size + 1 + 1 + 1) (by omega))) (Below.refl _ _) (fun _ => rfl)
    (fun pre W => ((∀ y ∈ pre, isDig y = true) ∧ W.cell? ⟨w.heap.size, 0, none⟩ = some (.int .u64 0) ∧ W.frozen? ⟨w.heap.size, 0, none⟩ = false ∧ W.cell? ⟨w.heap.size + 1, 0, none⟩ = some (.bool false) ∧ W.frozen? ⟨w.heap.size + 1, 0, none⟩ = false ∧ W.cell? ⟨w.heap.size + 1 + 1, 0, none⟩ = some (.int .u64 (accW pre)) ∧ W.frozen? ⟨w.heap.size + 1 + 1, 0, none⟩ = false) ∧ Below w.heap.size w W)
    (fun c pre W => (c = .ret ∧ (∃ y ∈ pre, isDig y = false) ∧ W.cell? ⟨w.heap.size, 0, none⟩ = some (.int .u64 0) ∧ W.cell? ⟨w.heap.size + 1, 0, none⟩ = some (.bool false)) ∧ Below w.heap.size w W)
    (OwnFrom.and (Own.from (fun s A B row hs hg hr => ⟨hs.1, cell_kept hs.2.1 hg hr, (frozen_kept hs.2.1 hg hr).trans hs.2.2.1, cell_kept hs.2.2.2.1 hg hr, (frozen_kept hs.2.2.2.1 hg hr).trans hs.2.2.2.2.1, cell_kept hs.2.2.2.2.2.1 hg hr, (frozen_kept hs.2.2.2.2.2.1 hg hr).trans hs.2.2.2.2.2.2⟩) _) (ownFrom_below (Nat.le_refl _) (by omega)))
    (fun c => OwnFrom.and (Own.from (fun s A B row hs hg hr => ⟨hs.1, hs.2.1, cell_kept hs.2.2.1 hg hr, cell_kept hs.2.2.2 hg hr⟩) _) (ownFrom_below (Nat.le_refl _) (by omega)))
    ⟨⟨by simp, c0.cell rfl, c0.free 0, c1.cell rfl, c1.free 0, c2.cell rfl, c2.free 0⟩, hB0⟩
    (fun x => { tmps := #[.string s, undef, .pointer (some ⟨w.heap.size, 0, none⟩), .pointer (some ⟨w.heap.size + 1, 0, none⟩), .pointer (some ⟨w.heap.size + 1 + 1, 0, none⟩), .int .u64 (dval x), .bool (isDig x), .string s, .func (.func 24) #[] #[.pointer (some ⟨w.heap.size + 1 + 1 + 1, 0, none⟩)], .int .u64 (dval x), .bool (isDig x), undef, undef, undef, undef, undef, undef, undef], defers := [] }) ?assign ?body ?done ?stop
  case assign =>
    intro l x W K hK
    gi_wp2
    exact hK
  case body =>
    rintro l pre x W ⟨⟨hp, h0, f0, h1, f1, h2, f2⟩, hB⟩ _
    obtain ⟨d, hd⟩ : ∃ d, d = isDig x := ⟨_, rfl⟩
    rw [← hd]
    have HD := Calm.hid hd
    clear hd
    cases d
    · gi_wp2
      obtain ⟨k0, k1⟩ := set_two (.int .u64 0) (.bool false) (a := w.heap.size) (b := w.heap.size + 1) (by omega) h0 h1
      exact ⟨(KeepsOthers.setCell _ _ _).trans (KeepsOthers.setCell _ _ _), ⟨rfl, ⟨x, by simp, HD.out.symm⟩, k0, k1⟩, (hB.setCell (p := ⟨w.heap.size, 0, none⟩) (Nat.le_refl _) _).setCell (p := ⟨w.heap.size + 1, 0, none⟩) (by simp) _⟩
    · gi_wp2
      refine ⟨KeepsOthers.setCell _ _ _, World.cell?_of_block (Below.heap_setCell W ⟨w.heap.size + 1 + 1, 0, none⟩ _ (w.heap.size + 1 + 1 + 1) (by simp)), ⟨fun y hy => ?_, ?_, by rw [World.frozen?_setCell]; exact f0, ?_, by rw [World.frozen?_setCell]; exact f1, ?_, by rw [World.frozen?_setCell]; exact f2⟩, hB.setCell (p := ⟨w.heap.size + 1 + 1, 0, none⟩) (by simp; omega) _⟩
      · rcases List.mem_append.1 hy with e | e
        · exact hp y e
        · simp at e; subst e; exact HD.out.symm
      · exact (World.cell?_of_block (Below.heap_setCell W ⟨w.heap.size + 1 + 1, 0, none⟩ _ w.heap.size (by simp; omega))).trans h0
      · exact (World.cell?_of_block (Below.heap_setCell W ⟨w.heap.size + 1 + 1, 0, none⟩ _ (w.heap.size + 1) (by simp))).trans h1
      · rw [accW_snoc]; exact World.cell?_setCell_same' _ _ _ (by rw [h2]; rfl)
  case done =>
    rintro D ys W hD rfl ⟨⟨hp, h0, f0, h1, f1, h2, f2⟩, hB⟩ hK
    gi_wp2
    obtain ⟨k0, k1⟩ := set_two (.int .u64 (accW ys)) (.bool true) (a := w.heap.size) (b := w.heap.size + 1) (by omega) h0 h1
    have hK' := ((KeepsOthers.setCell W ⟨w.heap.size, 0, none⟩ (.int .u64 (accW ys))).trans (KeepsOthers.setCell _ ⟨w.heap.size + 1, 0, none⟩ (.bool true))).same D _ hK rfl
    refine ⟨by simp, .inl ⟨_, _, rfl, run_takeDeferred hK', ?_⟩⟩
    have hk5 := cell_kept k0 (grownBy_putObj' _ D (.deferred none)) (fun r e => by cases e; exact ⟨_, hK', rfl⟩)
    have hb5 := cell_kept k1 (grownBy_putObj' _ D (.deferred none)) (fun r e => by cases e; exact ⟨_, hK', rfl⟩)
    have hv : valOf ys = .tuple #[.int .u64 (accW ys), .bool true] := by rw [valOf, if_pos (List.all_eq_true.2 hp)]
    refine ⟨.tuple #[.int .u64 (accW ys), .bool true], ?_, by rw [hv], ((hB.setCell (p := ⟨w.heap.size, 0, none⟩) (Nat.le_refl _) _).setCell (p := ⟨w.heap.size + 1, 0, none⟩) (by simp) _).trans (belowK_b (w := w) (Nat.le_refl _) _ D _ _ (by omega) hK' rfl rfl)⟩
    simp [results, Tryd.f18, go_sem, hk5, hb5]
  case stop =>
    rintro D c pre W hD hpre ⟨⟨rfl, hin, h0, h1⟩, hB⟩ hK
    gi_wp2
    refine ⟨by simp, .inl ⟨_, _, rfl, run_takeDeferred hK, ?_⟩⟩
    have hk5 := cell_kept h0 (grownBy_putObj' _ D (.deferred none)) (fun r e => by cases e; exact ⟨_, hK, rfl⟩)
    have hb5 := cell_kept h1 (grownBy_putObj' _ D (.deferred none)) (fun r e => by cases e; exact ⟨_, hK, rfl⟩)
    have hv : valOf bs = .tuple #[.int .u64 0, .bool false] := by rw [valOf, all_false hpre hin]; rfl
    refine ⟨.tuple #[.int .u64 0, .bool false], ?_, by rw [hv], hB.trans (belowK_b (w := w) (Nat.le_refl _) W D _ _ (by omega) hK rfl rfl)⟩
    simp [results, Tryd.f18, go_sem, hk5, hb5]
theorem value_any (bs : List UInt8) (hmax : bs.length ≤ 4611686018427387904) (w : World) :
    Calls Tryd.prog 18 #[.string ⟨bs.toArray⟩] w fun e w' => e = .returned (valOf bs) ∧ Below w.heap.size w w' := callsIn_wide.1 (value_in bs hmax w)
end Go.Proofs.YtmpcknjmdealgaaDoor
