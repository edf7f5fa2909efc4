/-
  The document's own mixing: the constants, the schedule, the 64 rounds and the sum.
-/
import Derived.Test.YtpbahoapjkmcjaaDoorPieces
import Derived.Laws.Tables
namespace Go.Proofs.YtpbahoapjkmcjaaDoor
open Go.RowKit Go.Sha Go.Calm
attribute [local go_sem] u32_wrap_add u32_bits_xor u32_bits_and u32_bits_or u32_bits_not u32_bits_max u32_signed u32_mod_add u32_shr3 u32_shr10

theorem wpList_build_to {P : Program} {ops : Array Oper} {rest : List Oper} {o : Oper} {a : Act} {w : World} {Q : Exit → Act → World → Prop} (hg : o.guard = none) (t : TypeId) (parts : Array (Nat × Operand)) (ho : o.op = .build t parts) (cells : Array Value)
    (hb : P.built t (parts.map fun (i, x) => (i, a.eval x)).toList = some cells)
    (h : wpList P ops Q rest (a.put o.dst (.agg cells)) w) : wpList P ops Q (o :: rest) a w :=
  wpList_build hg t parts ho (by rw [hb]; rfl) (by rw [hb]; exact h)
def zero64 : List Value := List.replicate 64 (.int .u32 0)
set_option maxRecDepth 100000 in
theorem constants_any (w : World) : Calls Tryd.prog 34 #[] w fun en w' => en = .returned (.agg (Ks.map wv).toArray) ∧ Below w.heap.size w w' := by
  obtain ⟨C, hC⟩ : ∃ C, C = (Ks.map wv).toArray := ⟨_, rfl⟩
  have HC := Calm.hid hC
  rw [← hC]
  clear hC
  go_enter Tryd.func34, Tryd.ntmps34
  have hl : (Ks.map wv).length = 64 := by rw [List.length_map]; rfl
  have HL := Calm.hid hl
  clear hl
  go_wp2_with (first | refine wpList_build_to rfl 54 _ rfl C (by rw [HC.out]; kernel_rfl) ?_ | (refine wpList_store_rw rfl 54 (.tmp 0) (.tmp 1) rfl w.heap.size (Ks.map wv) rfl (congrArg _ HC.out) 54 zero64 (Rw.new w _ 54) (by rw [HL.out]; kernel_rfl) (by rw [HL.out]; rfl) (fun u hu => by obtain ⟨x, _, rfl⟩ := List.mem_map.1 hu; rfl) ?_; intro w9 hr9 ht9; refine wpList_nil ?_))
  exact bodyPost_ret (results_cell_rw rfl rfl hr9 Tryd.underlying54 (by rw [HL.out]; kernel_rfl)) rfl ⟨by rw [HC.out], ((((Turns.refl (fun _ => False) w).alloc _)).step ht9 (fun b hb e => by subst e; exact absurd hb (Nat.lt_irrefl _))).below (fun _ _ h => h)⟩

/-! ### The mixing of the document -/
/-- What the mixing's rows hold: the words handed in, the result's, the schedule. -/
structure R1 (w : World) (s l : List UInt32) (wr : World) : Prop where
  s_ : Rw wr w.heap.size (s.map wv) 43
  z_ : Rw wr (w.heap.size + 1) ((List.replicate 8 (0 : UInt32)).map wv) 43
  l_ : Rw wr (w.heap.size + 1 + 1) (l.map wv) 54
  turns : Turns (fun _ => False) w wr
/-- .. and the constants and the eight words that go round. -/
structure R3 (w : World) (s l : List UInt32) (kb vb : Nat) (v : List UInt32) (wr : World) : Prop where
  base : R1 w s l wr
  k_ : Rw wr kb (Ks.map wv) 54
  v_ : Rw wr vb (v.map wv) 43
  kb_ : w.heap.size + 1 + 1 < kb
  vb_ : kb < vb
/-- Of a word of the schedule, the first j bytes. -/
def part (m : List UInt8) (i : Nat) : Nat → UInt32
  | 0 => 0
  | j + 1 => part m i j * 256 + UInt32.ofNat (m.getD (4 * i + j) 0).toNat
theorem part_word (m : List UInt8) (i : Nat) : part m i 4 = word (m.getD (4 * i) 0) (m.getD (4 * i + 1) 0) (m.getD (4 * i + 2) 0) (m.getD (4 * i + 3) 0) := by
  simp only [part, Nat.add_zero]
  generalize m.getD (4 * i) 0 = a
  generalize m.getD (4 * i + 1) 0 = b
  generalize m.getD (4 * i + 2) 0 = c
  generalize m.getD (4 * i + 3) 0 = d
  have h0 := a.toNat_lt
  have h1 := b.toNat_lt
  have h2 := c.toNat_lt
  have h3 := d.toNat_lt
  apply UInt32.toNat_inj.1
  rw [word_toNat]
  simp
  omega
section
variable {w wr : World} {s l : List UInt32}
theorem R1.get (h : R1 w s l wr) {j : Nat} (hj : j < l.length) : wr.cell? ⟨w.heap.size + 1 + 1, j, none⟩ = some (wv (l.getD j 0)) := by
  refine h.l_.cell ?_
  simp [hj]
theorem R1.set (h : R1 w s l wr) (i : Nat) (x : UInt32) : R1 w s (l.set i x) (wr.setCell ⟨w.heap.size + 1 + 1, i, none⟩ (wv x)) :=
  ⟨h.s_.set_other (by simp; omega) _, h.z_.set_other (by simp) _, by rw [List.map_set]; exact h.l_.set i _, h.turns.setCell (by simp; omega) _⟩
theorem R1.below {w2 : World} (h : R1 w s l wr) (k : Below wr.heap.size wr w2) : R1 w s l w2 :=
  ⟨h.s_.below k, h.z_.below k, h.l_.below k, h.turns.trans (Turns.of_below k)⟩
theorem R1.drewN (h : R1 w s l wr) (n : Nat) : R1 w s l (wr.drewN n) := ⟨h.s_, h.z_, h.l_, h.turns.drewN n⟩
end
theorem set_self {l : List UInt32} {i : Nat} {x : UInt32} (h : l[i]? = some x) : l.set i x = l := by
  apply List.ext_getElem?
  intro j
  rw [List.getElem?_set]
  split
  · rename_i e; subst e
    have := (List.getElem?_eq_some_iff.1 h).1
    rw [h, if_pos this]
  · rfl
def half (m : List UInt8) (i : Nat) : List UInt32 := sched m i ++ List.replicate (64 - i) 0
theorem half_length (m : List UInt8) {i : Nat} (hi : i ≤ 64) : (half m i).length = 64 := by simp [half, sched_length]; omega
theorem half_zero (m : List UInt8) {i : Nat} (hi : i < 64) : (half m i)[i]? = some 0 := by
  unfold half
  rw [List.getElem?_append_right (by rw [sched_length]; exact Nat.le_refl _), sched_length, Nat.sub_self]
  obtain ⟨k, hk⟩ : ∃ k, 64 - i = k + 1 := ⟨63 - i, by omega⟩
  rw [hk]; rfl
theorem half_next (m : List UInt8) {i : Nat} (hi : i < 64) : (half m i).set i (next m i (sched m i)) = half m (i + 1) := fill_set (sched_length m i) hi
theorem half_get (m : List UInt8) {i j : Nat} (hj : j < i) : (half m i).getD j 0 = (sched m i).getD j 0 := by
  rw [List.getD_eq_getElem?_getD, half, fill_get (sched_length m i) hj]; rfl

theorem part_walk (m : List UInt8) (i j : Nat) {P : UInt32} {x : UInt8} (hP : P = part m i j) (hx : x = m.getD (4 * i + j) 0) : (U P * 256 + B8 x) % 4294967296 = U (part m i (j + 1)) := by
  rw [part, ← hP, ← hx]
  have := x.toNat_lt
  have := P.toNat_lt
  unfold U B8
  rw [UInt32.toNat_add, UInt32.toNat_mul, UInt32.toNat_ofNat']
  simp
theorem next_ref {x0 x1 x2 x3 : UInt32} {m : List UInt8} {i : Nat} (h : next m i (sched m i) = x0 + x1 + (rot x2 7 ^^^ rot x2 18 ^^^ shr x2 3) + (rot x3 17 ^^^ rot x3 19 ^^^ shr x3 10)) :
    x0 + (rot x2 7 ^^^ rot x2 18 ^^^ shr x2 3) + x1 + (rot x3 17 ^^^ rot x3 19 ^^^ shr x3 10) = next m i (sched m i) := by
  rw [h, UInt32.add_assoc x0 _ x1, UInt32.add_comm _ x1, ← UInt32.add_assoc x0]
theorem R1.start (w : World) (s : List UInt32) (S Z L : Array Value) (hS : S.toList = s.map wv) (hZ : Z.toList = (List.replicate 8 (0 : UInt32)).map wv) (hL : L.toList = (List.replicate 64 (0 : UInt32)).map wv) : R1 w s (half [] 0) (((w.alloc (.cells S 43)).alloc (.cells Z 43)).alloc (.cells L 54)) := by
  have h1 := Rw.new w S 43
  have h2 := Rw.new (w.alloc (.cells S 43)) Z 43
  have h3 := Rw.new ((w.alloc (.cells S 43)).alloc (.cells Z 43)) L 54
  rw [hS] at h1
  rw [hZ] at h2
  rw [hL] at h3
  simp only [World.size_alloc] at h2 h3
  exact ⟨(h1.alloc _).alloc _, h2.alloc _, h3, (((Turns.refl _ _).alloc _).alloc _).alloc _⟩

theorem new_stored {w w' : World} {o : Obj} (ht : Turns (· = w.heap.size) (w.alloc o) w') : Below w.heap.size w w' :=
  (((Turns.refl (fun _ => False) w).alloc o).step ht (fun _ hb e => by subst e; exact absurd hb (Nat.lt_irrefl _))).below (fun _ _ h => h)
theorem R3.start {w w5 w6 w7 : World} {s l : List UInt32} {o : Obj} (h : R1 w s l w6) (h5 : w.heap.size + 1 + 1 < w5.heap.size) (hk : Rw w6 w5.heap.size (Ks.map wv) 54) (hv : Rw w7 w6.heap.size (s.map wv) 43) (ht : Turns (· = w6.heap.size) (w6.alloc o) w7) : R3 w s l w5.heap.size w6.heap.size s w7 :=
  ⟨h.below (new_stored ht), hk.below (new_stored ht), hv, h5, hk.lt⟩
theorem R3.drewN {w wr : World} {s l : List UInt32} {kb vb : Nat} {v : List UInt32} (h : R3 w s l kb vb v wr) (n : Nat) : R3 w s l kb vb v (wr.drewN n) := ⟨h.base.drewN n, h.k_, h.v_, h.kb_, h.vb_⟩
theorem R3.turned {w wr w2 : World} {s l : List UInt32} {kb vb : Nat} {v v' : List UInt32} (h : R3 w s l kb vb v wr) (hv : Rw w2 vb (v'.map wv) 43) (ht : Turns (· = vb) wr w2) : R3 w s l kb vb v' w2 := by
  have h1 := h.kb_
  have h2 := h.vb_
  exact ⟨⟨h.base.s_.turns ht (by omega), h.base.z_.turns ht (by omega), h.base.l_.turns ht (by omega), h.base.turns.step ht (fun b hb e => by omega)⟩, h.k_.turns ht (by omega), hv, h1, h2⟩
theorem R3.round {w wr w2 : World} {m : List UInt8} {s l : List UInt32} {kb vb i : Nat} (h : R3 w s l kb vb (rounds m s i) wr) {n : Nat} {a b c d e f g x k y : UInt32} (hr : rounds m s i = [a, b, c, d, e, f, g, x]) (hk : k = K i) (hy : y = (sched m 64).getD i 0)
    (hv : Rw w2 vb [wv (tOf e f g x k y + uOf a b c), wv a, wv b, wv c, wv (d + tOf e f g x k y), wv e, wv f, wv g] 43) (ht : Turns (· = vb) (wr.drewN n) w2) : R3 w s l kb vb (rounds m s (i + 1)) w2 := by
  refine (h.drewN n).turned ?_ ht
  have : rounds m s (i + 1) = Go.Sha.round (K i) ((sched m 64).getD i 0) (rounds m s i) := rfl
  rw [this, hr, ← hk, ← hy]
  exact hv
/-- The words added, one by one. -/
theorem R3.add {w wr : World} {m : List UInt8} {s l : List UInt32} {kb vb i : Nat} (hs : s.length = 8) (hi : i < 8) (h : R3 w (adds s (rounds m s 64) i) l kb vb (rounds m s 64) wr) (k : Nat) :
    R3 w (adds s (rounds m s 64) (i + 1)) l kb vb (rounds m s 64) ((wr.drewN k).setCell ⟨w.heap.size, i, none⟩ (.int .u32 (U (s.getD i 0 + (rounds m s 64).getD i 0)))) := by
  have h1 := h.kb_
  have h2 := h.vb_
  refine ⟨⟨?_, (h.base.z_.drewN k).set_other (by simp) _, (h.base.l_.drewN k).set_other (by simp; omega) _, (h.base.turns.drewN k).setCell (by simp) _⟩, (h.k_.drewN k).set_other (by simp; omega) _, (h.v_.drewN k).set_other (by simp; omega) _, h1, h2⟩
  have := (h.base.s_.drewN k).set i (wv (s.getD i 0 + (rounds m s 64).getD i 0))
  rw [← List.map_set, adds_set hs (rounds_length m hs 64) hi] at this
  exact this
theorem R3.sAt {w wr : World} {m : List UInt8} {s l : List UInt32} {kb vb i : Nat} (hs : s.length = 8) (hi : i < 8) (h : R3 w (adds s (rounds m s 64) i) l kb vb (rounds m s 64) wr) : wr.cell? ⟨w.heap.size, i, none⟩ = some (wv (s.getD i 0)) := by
  refine h.base.s_.cell ?_
  have hl8 := adds_length hs (rounds_length m hs 64) (i := i) (by omega)
  have hg := adds_getD hs (rounds_length m hs 64) hi
  rw [List.getElem?_map, ← hg]
  have : i < (adds s (rounds m s 64) i).length := by omega
  simp [this]
theorem R3.vAt {w wr : World} {m : List UInt8} {s s' l : List UInt32} {kb vb i : Nat} (hs : s.length = 8) (hi : i < 8) (h : R3 w s' l kb vb (rounds m s 64) wr) : wr.cell? ⟨vb, i, none⟩ = some (wv ((rounds m s 64).getD i 0)) := by
  refine h.v_.cell ?_
  have : i < (rounds m s 64).length := by rw [rounds_length m hs]; omega
  simp [this]
theorem map_one (s : List UInt32) : ∀ u ∈ s.map wv, u.oneCell' = true := fun u hu => by obtain ⟨x, _, rfl⟩ := List.mem_map.1 hu; rfl

set_option maxRecDepth 100000 in
set_option maxHeartbeats 1000000 in
theorem mixR_any (s : List UInt32) (hs : s.length = 8) (m : List UInt8) (p : Option Addr) (cap : Nat) (w : World) (hm : BytesOf w p 64 cap m) :
    Calls Tryd.prog 29 #[.agg (s.map wv).toArray, .slice p 64 cap] w fun en w' => en = .returned (.agg ((mix s m).map wv).toArray) ∧ Below w.heap.size w w' := by
  have hcap := hm.le
  obtain ⟨ad, rfl⟩ : ∃ ad, p = some ad := by
    cases p with
    | none => have := (hm.nil rfl).1; omega
    | some ad => exact ⟨ad, rfl⟩
  obtain ⟨bb, off, rfl⟩ := hm.plain (by omega)
  have HM := Calm.hid hm
  have HS := Calm.hid hs
  clear hm hs
  obtain ⟨S, hS⟩ : ∃ S, S = (s.map wv).toArray := ⟨_, rfl⟩
  have HSS := Calm.hid hS
  rw [← hS]
  clear hS
  go_enter Tryd.func29, Tryd.ntmps29
  go_wp2
  go_loopw [6] (fun c wr => ∃ i : Nat, i ≤ 16 ∧ c = .int .i64 i ∧ R1 w s (half m i) wr) (fun c _ => 16 - (intOf c).toNat)
  case atStart => exact ⟨0, by omega, rfl, R1.start w s _ _ _ (by rw [HSS.out]) rfl rfl⟩
  case round =>
    obtain ⟨i, hi, rfl, hL⟩ := hrel
    by_cases hlt : i < 16
    · have hL0 : R1 w s ((half m i).set i (part m i 0)) wr := by rw [part, set_self (half_zero m (by omega))]; exact hL
      clear hL
      have HL0 := Calm.hid hL0
      clear hL0
      go_wp2
      go_loopw [7] (fun c wr => ∃ j : Nat, j ≤ 4 ∧ c = .int .i64 j ∧ R1 w s ((half m i).set i (part m i j)) wr) (fun c _ => 4 - (intOf c).toNat)
      case atStart => exact ⟨0, by omega, rfl, HL0.out⟩
      case round =>
        clear HL0
        obtain ⟨j, hj, rfl, hL⟩ := hrel
        by_cases hj4 : j < 4
        · have c0 := hL.get (j := i) (by simp [half_length m (show i ≤ 64 by omega)]; omega)
          have e0 : ((half m i).set i (part m i j)).getD i 0 = part m i j := by
            rw [List.getD_eq_getElem?_getD, List.getElem?_set_self (by rw [half_length m (show i ≤ 64 by omega)]; omega)]; rfl
          rw [e0] at c0
          clear e0
          have f0 := hL.l_.free i
          obtain ⟨x, hx⟩ : ∃ x, x = m.getD (4 * i + j) 0 := ⟨_, rfl⟩
          have c1 := (HM.out.turns hL.turns (fun _ _ _ h => h)).cell (j := 4 * i + j) (by omega)
          rw [← hx] at c1
          have HX := Calm.hid hx
          obtain ⟨P, hP⟩ : ∃ P, P = part m i j := ⟨_, rfl⟩
          have HP := Calm.hid hP
          rw [← hP] at c0
          have HL := Calm.hid hL
          clear hL hx hP
          go_wp2
          refine Calm.region_d 15 (by kernel_rfl) (by kernel_rfl) ?_
          simp only [List.take_succ_cons, List.take_zero, List.drop_succ_cons, List.drop_zero]
          repeat (go_big_quiet_step (fail))
          refine wpQuiet_nil ?_
          rintro _ ⟨nq, rfl⟩
          go_wp2
          go_roundw
          case rel => exact ⟨j + 1, by omega, by go_num, by rw [part_walk m i j HP.out HX.out]; have := (HL.out.drewN nq).set i (part m i (j + 1)); rwa [List.set_set] at this⟩
          case measure => simp [intOf]; omega
        · have H4 : Hid (j = 4) := show j = 4 by omega
          have hL4 : R1 w s (half m (i + 1)) wr := by
            rw [H4.out] at hL
            rw [← half_next m (by omega), next, if_pos hlt, ← part_word]
            exact hL
          clear hL
          have HL4 := Calm.hid hL4
          clear hL4
          go_wp2
          go_roundw
          case rel => exact ⟨i + 1, by omega, by go_num, HL4.out⟩
          case measure => simp [intOf]; omega
    · have H16 : Hid (i = 16) := show i = 16 by omega
      have hL16 : R1 w s (half m 16) wr := by rw [← H16.out]; exact hL
      have HL16 := Calm.hid hL16
      clear hL hL16
      go_wp2
      go_loopw [8] (fun c wr => ∃ i : Nat, 16 ≤ i ∧ i ≤ 64 ∧ c = .int .i64 i ∧ R1 w s (half m i) wr) (fun c _ => 64 - (intOf c).toNat)
      case atStart => exact ⟨16, by omega, by omega, rfl, HL16.out⟩
      case round =>
        clear HL16
        obtain ⟨i, hi16, hi, rfl, hL⟩ := hrel
        by_cases hlt : i < 64
        · obtain ⟨x0, hx0⟩ : ∃ b, b = (sched m i).getD (i - 16) 0 := ⟨_, rfl⟩
          obtain ⟨x1, hx1⟩ : ∃ b, b = (sched m i).getD (i - 7) 0 := ⟨_, rfl⟩
          obtain ⟨x2, hx2⟩ : ∃ b, b = (sched m i).getD (i - 15) 0 := ⟨_, rfl⟩
          obtain ⟨x3, hx3⟩ : ∃ b, b = (sched m i).getD (i - 2) 0 := ⟨_, rfl⟩
          have c0 := hL.get (j := i - 16) (by rw [half_length m (by omega)]; omega)
          have c1 := hL.get (j := i - 7) (by rw [half_length m (by omega)]; omega)
          have c2 := hL.get (j := i - 15) (by rw [half_length m (by omega)]; omega)
          have c3 := hL.get (j := i - 2) (by rw [half_length m (by omega)]; omega)
          have cB := hL.get (j := i) (by rw [half_length m (by omega)]; omega)
          rw [half_get m (by omega), ← hx0] at c0
          rw [half_get m (by omega), ← hx1] at c1
          rw [half_get m (by omega), ← hx2] at c2
          rw [half_get m (by omega), ← hx3] at c3
          have E : Hid (next m i (sched m i) = x0 + x1 + (rot x2 7 ^^^ rot x2 18 ^^^ shr x2 3) + (rot x3 17 ^^^ rot x3 19 ^^^ shr x3 10)) := by unfold next; rw [if_neg (by omega), hx0, hx1, hx2, hx3]; rfl
          clear hx0 hx1 hx2 hx3
          have fB := hL.l_.free i
          have HL := Calm.hid hL
          clear hL
          go_wp2
          refine Calm.region_d 10 (by kernel_rfl) (by kernel_rfl) ?_
          simp only [List.take_succ_cons, List.take_zero, List.drop_succ_cons, List.drop_zero]
          repeat (go_big_quiet_step (fail))
          refine wpQuiet_nil ?_
          rintro _ ⟨nq, rfl⟩
          refine wpList_nil ?_
          go_wp2
          refine Calm.region_d 29 (by kernel_rfl) (by kernel_rfl) ?_
          simp only [List.take_succ_cons, List.take_zero, List.drop_succ_cons, List.drop_zero]
          repeat (go_big_quiet_step ((go_at_call 33; refine (turned_any _ _ (by decide) (by decide) _).mono ?_; rintro e1 w1 ⟨rfl, m1, rfl⟩; exact ⟨rfl, _, by rw [World.drewN_drewN, Nat.add_assoc]⟩)))
          refine wpQuiet_nil ?_
          rintro _ ⟨nq2, rfl⟩
          go_wp2
          go_roundw
          case rel => exact ⟨i + 1, by omega, by omega, by go_num, by rw [next_ref E.out, ← half_next m hlt]; exact (HL.out.drewN _).set i _⟩
          case measure => simp [intOf]; omega
        · have H64 : Hid (i = 64) := show i = 64 by omega
          have hL64 : R1 w s (sched m 64) wr := by rw [H64.out] at hL; simpa [half] using hL
          have HL6 := Calm.hid hL64
          clear hL hL64
          obtain ⟨C, hC⟩ : ∃ C, C = (Ks.map wv).toArray := ⟨_, rfl⟩
          have HC := Calm.hid hC
          have hcon := constants_any wr
          rw [← hC] at hcon
          clear hC
          go_wp2_with fail
          refine hcon.mono ?_
          rintro en w5 ⟨rfl, hb5⟩
          have HL5 := Calm.hid (HL6.out.below hb5)
          clear hcon hb5
          have hz5 := Rw.new w5 zero64.toArray 54
          have HZ5 := Calm.hid hz5
          clear hz5
          have hkl : (Ks.map wv).length = 64 := by rw [List.length_map]; rfl
          have HKL := Calm.hid hkl
          clear hkl
          have hsl : (s.map wv).length = 8 := by rw [List.length_map]; exact HS.out
          have HSL := Calm.hid hsl
          clear hsl
          have HZ6 : ∀ w6 : World, Hid (Rw (w6.alloc (.cells #[.int .u32 0, .int .u32 0, .int .u32 0, .int .u32 0, .int .u32 0, .int .u32 0, .int .u32 0, .int .u32 0] 43)) w6.heap.size [.int .u32 0, .int .u32 0, .int .u32 0, .int .u32 0, .int .u32 0, .int .u32 0, .int .u32 0, .int .u32 0] 43) := fun w6 => Rw.new w6 _ 43
          go_wp2_with (first
            | (refine wpList_store_rw rfl 54 (.tmp 11) (.tmp 87) rfl w5.heap.size (Ks.map wv) rfl (congrArg _ HC.out) 54 _ HZ5.out (by rw [HKL.out]; kernel_rfl) (by rw [HKL.out]; rfl) (map_one Ks) ?_
               intro w6 hr6 ht6
               have HR6 := Calm.hid hr6
               have HB6 := Calm.hid (new_stored ht6)
               have HP6 := Calm.hid (HL5.out.below (new_stored ht6))
               clear hr6 ht6
               refine wpList_nil ?_)
            | refine wpList_load_rw rfl 43 (.tmp 2) rfl w.heap.size rfl 43 _ _ HP6.out.s_ Tryd.underlying43 rfl (by rw [HSL.out]; kernel_rfl) ?_
            | (refine wpList_store_rw rfl 43 (.tmp 12) (.tmp 88) rfl w6.heap.size (s.map wv) rfl rfl 43 _ (HZ6 w6).out (by rw [HSL.out]; kernel_rfl) (by rw [HSL.out]; rfl) (map_one s) ?_
               intro w7 hr7 ht7
               have HP7 := Calm.hid (R3.start HP6.out HL5.out.l_.lt HR6.out hr7 ht7)
               clear hr7 ht7
               refine wpList_nil ?_))
          go_loopw [13] (fun c wr => ∃ i : Nat, i ≤ 64 ∧ c = .int .i64 i ∧ R3 w s (sched m 64) w5.heap.size w6.heap.size (rounds m s i) wr) (fun c _ => 64 - (intOf c).toNat)
          case atStart => exact ⟨0, by omega, rfl, HP7.out⟩
          case round =>
            clear HP7 HP6 HR6 HB6 HL5 HL6 HZ5
            obtain ⟨i, hi, rfl, hL⟩ := hrel
            by_cases hlt : i < 64
            · obtain ⟨a, b, c, d, e, f, g, x, hr⟩ := eight (rounds_length m HS.out i)
              have h2 := hL.v_
              rw [hr] at h2
              have c0 : wr.cell? ⟨w6.heap.size, 0, none⟩ = some (wv a) := h2.cell rfl
              have c1 : wr.cell? ⟨w6.heap.size, 1, none⟩ = some (wv b) := h2.cell rfl
              have c2 : wr.cell? ⟨w6.heap.size, 2, none⟩ = some (wv c) := h2.cell rfl
              have c3 : wr.cell? ⟨w6.heap.size, 3, none⟩ = some (wv d) := h2.cell rfl
              have c4 : wr.cell? ⟨w6.heap.size, 4, none⟩ = some (wv e) := h2.cell rfl
              have c5 : wr.cell? ⟨w6.heap.size, 5, none⟩ = some (wv f) := h2.cell rfl
              have c6 : wr.cell? ⟨w6.heap.size, 6, none⟩ = some (wv g) := h2.cell rfl
              have c7 : wr.cell? ⟨w6.heap.size, 7, none⟩ = some (wv x) := h2.cell rfl
              obtain ⟨k, hk⟩ : ∃ k, k = K i := ⟨_, rfl⟩
              obtain ⟨y, hy⟩ : ∃ y, y = (sched m 64).getD i 0 := ⟨_, rfl⟩
              have ck : wr.cell? ⟨w5.heap.size, i, none⟩ = some (wv k) := by
                rw [hk]
                refine hL.k_.cell ?_
                rw [List.getElem?_map, K, List.getD_eq_getElem?_getD, List.getElem?_eq_getElem (show i < Ks.length from hlt)]
                rfl
              have cx : wr.cell? ⟨w.heap.size + 1 + 1, i, none⟩ = some (wv y) := by
                rw [hy]
                exact hL.base.get (by rw [sched_length]; exact hlt)
              have HR := Calm.hid hr
              have HL := Calm.hid hL
              have HKK := Calm.hid hk
              have HYY := Calm.hid hy
              clear hL hr hk hy h2
              go_wp2
              refine Calm.region_d 18 (by kernel_rfl) (by kernel_rfl) ?_
              simp only [List.take_succ_cons, List.take_zero, List.drop_succ_cons, List.drop_zero]
              repeat (go_big_quiet_step (fail))
              refine wpQuiet_nil ?_
              rintro _ ⟨nq, rfl⟩
              refine wpList_nil ?_
              go_wp2
              refine Calm.region_d 29 (by kernel_rfl) (by kernel_rfl) ?_
              simp only [List.take_succ_cons, List.take_zero, List.drop_succ_cons, List.drop_zero]
              repeat (go_big_quiet_step ((go_at_call 33; refine (turned_any _ _ (by decide) (by decide) _).mono ?_; rintro e1 w1 ⟨rfl, m1, rfl⟩; exact ⟨rfl, _, by rw [World.drewN_drewN, Nat.add_assoc]⟩)))
              refine wpQuiet_nil ?_
              rintro _ ⟨nq2, rfl⟩
              refine wpList_nil ?_
              go_wp2_with fail
              refine (turned_any a 2 (by decide) (by decide) _).mono ?_
              rintro e1 w1 ⟨rfl, m1, rfl⟩
              go_wp2_with fail
              refine (turned_any a 13 (by decide) (by decide) _).mono ?_
              rintro e1 w1 ⟨rfl, m2, rfl⟩
              go_wp2_with fail
              refine (turned_any a 22 (by decide) (by decide) _).mono ?_
              rintro e1 w1 ⟨rfl, m3, rfl⟩
              go_wp2_with (first
                | refine wpList_build_to rfl 43 _ rfl #[wv (tOf e f g x k y + uOf a b c), wv a, wv b, wv c, wv (d + tOf e f g x k y), wv e, wv f, wv g] (by kernel_rfl) ?_
                | (refine wpList_store_rw rfl 43 (.tmp 12) (.tmp 172) rfl w6.heap.size [wv (tOf e f g x k y + uOf a b c), wv a, wv b, wv c, wv (d + tOf e f g x k y), wv e, wv f, wv g] rfl rfl 43 _ HL.out.v_ (by kernel_rfl) (by rw [HR.out]; rfl) (by simp [Value.oneCell']) ?_
                   intro w8 hr8 ht8
                   have HP8 := Calm.hid (HL.out.round HR.out HKK.out HYY.out hr8 ht8)
                   clear hr8 ht8
                   refine wpList_nil ?_))
              go_roundw
              case rel => exact ⟨i + 1, by omega, by go_num, HP8.out⟩
              case measure => simp [intOf]; omega
            · have H64' : Hid (i = 64) := show i = 64 by omega
              have hL64 : R3 w (adds s (rounds m s 64) 0) (sched m 64) w5.heap.size w6.heap.size (rounds m s 64) wr := by rw [adds_zero]; rw [H64'.out] at hL; exact hL
              have HL64 := Calm.hid hL64
              clear hL hL64
              go_wp2
              go_loopw [22] (fun c wr => ∃ i : Nat, i ≤ 8 ∧ c = .int .i64 i ∧ R3 w (adds s (rounds m s 64) i) (sched m 64) w5.heap.size w6.heap.size (rounds m s 64) wr) (fun c _ => 8 - (intOf c).toNat)
              case atStart => exact ⟨0, by omega, rfl, HL64.out⟩
              case round =>
                clear HL64
                obtain ⟨i, hi, rfl, hL⟩ := hrel
                by_cases hlt : i < 8
                · obtain ⟨p, hp⟩ : ∃ p, p = s.getD i 0 := ⟨_, rfl⟩
                  obtain ⟨q, hq⟩ : ∃ q, q = (rounds m s 64).getD i 0 := ⟨_, rfl⟩
                  have c0 := hL.sAt HS.out hlt
                  have c1 := hL.vAt HS.out hlt
                  rw [← hp] at c0
                  rw [← hq] at c1
                  have f0 := hL.base.s_.free i
                  have HPP := Calm.hid hp
                  have HQQ := Calm.hid hq
                  have HL := Calm.hid hL
                  clear hp hq hL
                  go_wp2
                  refine Calm.region_d 9 (by kernel_rfl) (by kernel_rfl) ?_
                  simp only [List.take_succ_cons, List.take_zero, List.drop_succ_cons, List.drop_zero]
                  repeat (go_big_quiet_step (fail))
                  refine wpQuiet_nil ?_
                  rintro _ ⟨nq, rfl⟩
                  go_wp2
                  go_roundw
                  case rel => exact ⟨i + 1, by omega, by go_num, by rw [HPP.out, HQQ.out]; exact HL.out.add HS.out hlt nq⟩
                  case measure => simp [intOf]; omega
                · have H8 : Hid (i = 8) := show i = 8 by omega
                  have hL8 : R3 w (mix s m) (sched m 64) w5.heap.size w6.heap.size (rounds m s 64) wr := by
                    rw [H8.out, adds_all HS.out] at hL; exact hL
                  have HL8 := Calm.hid hL8
                  clear hL hL8
                  have hml : ((mix s m).map wv).length = 8 := by rw [List.length_map]; exact mix_length HS.out m
                  have HML := Calm.hid hml
                  clear hml
                  go_wp2_with (first
                    | refine wpList_load_rw rfl 43 (.tmp 2) rfl w.heap.size rfl 43 _ _ HL8.out.base.s_ Tryd.underlying43 rfl (by rw [HML.out]; kernel_rfl) ?_
                    | (refine wpList_store_rw rfl 43 (.tmp 4) (.tmp 186) rfl (w.heap.size + 1) ((mix s m).map wv) rfl rfl 43 _ HL8.out.base.z_ (by rw [HML.out]; kernel_rfl) (by rw [HML.out]; rfl) (map_one _) ?_
                       intro w9 hr9 ht9
                       refine wpList_nil ?_))
                  exact bodyPost_ret (results_cell_rw rfl rfl hr9 Tryd.underlying43 (by rw [HML.out]; kernel_rfl)) rfl ⟨rfl, (HL8.out.base.turns.step ht9 (fun b hb e => by omega)).below (fun _ _ h => h)⟩
end Go.Proofs.YtpbahoapjkmcjaaDoor
