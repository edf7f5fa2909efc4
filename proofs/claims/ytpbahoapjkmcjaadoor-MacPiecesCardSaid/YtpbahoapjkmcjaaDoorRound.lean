/-
  One round of the mixing, on a block that holds the eight words: the walk of the inner function.
-/
import Derived.Test.YtpbahoapjkmcjaaDoorTurn
import Derived.Test.YtpbahoapjkmcjaaDoorHeap
import Derived.Test.YtpbahoapjkmcjaaDoorSpec
namespace Go.Proofs.YtpbahoapjkmcjaaDoor
open Go.RowKit Go.Sha Go.Calm
attribute [local go_sem] u32_wrap_add u32_bits_xor u32_bits_and u32_bits_or u32_bits_not u32_bits_max u32_signed u32_mod_add


set_option maxHeartbeats 1000000 in
theorem round_any (tv : TypeId) (i : Nat) (hi : i < 64) (bv bw : Nat) (a b c d e f g hh k x : UInt32) (w : World)
    (hv : Rw w bv [wv a, wv b, wv c, wv d, wv e, wv f, wv g, wv hh] tv)
    (ck : w.cell? ⟨0, i, none⟩ = some (wv k)) (cx : w.cell? ⟨bw, i, none⟩ = some (wv x)) :
    Calls Tryd.prog 36 #[.int .i64 (i : Int), .pointer (some ⟨bv, 0, none⟩), .pointer (some ⟨bw, 0, none⟩)] w fun en w' =>
      en = .returned (.tuple #[]) ∧ Rw w' bv [wv (tOf e f g hh k x + uOf a b c), wv a, wv b, wv c, wv (d + tOf e f g hh k x), wv e, wv f, wv g] tv ∧ Turns (· = bv) w w' := by
  have c0 : w.cell? ⟨bv, 0, none⟩ = some (wv a) := hv.cell rfl
  have c1 : w.cell? ⟨bv, 1, none⟩ = some (wv b) := hv.cell rfl
  have c2 : w.cell? ⟨bv, 2, none⟩ = some (wv c) := hv.cell rfl
  have c3 : w.cell? ⟨bv, 3, none⟩ = some (wv d) := hv.cell rfl
  have c4 : w.cell? ⟨bv, 4, none⟩ = some (wv e) := hv.cell rfl
  have c5 : w.cell? ⟨bv, 5, none⟩ = some (wv f) := hv.cell rfl
  have c6 : w.cell? ⟨bv, 6, none⟩ = some (wv g) := hv.cell rfl
  have c7 : w.cell? ⟨bv, 7, none⟩ = some (wv hh) := hv.cell rfl
  go_enter Tryd.func36, Tryd.ntmps36
  go_wp2
  go_quiet ((go_at_call 37; exact Calls.quiet_of (three_any _ _ _ _ (by decide) (by decide) (by decide) _)))
  go_wp2
  go_quiet ((go_at_call 37; refine (three_any _ _ _ _ (by decide) (by decide) (by decide) _).mono ?_; rintro e1 w1 ⟨rfl, m1, rfl⟩; exact ⟨rfl, _, by rw [World.drewN_drewN, Nat.add_assoc]⟩))
  go_wp2
  refine Calm.region_d 2 (by kernel_rfl) (by kernel_rfl) ?_
  simp only [List.take_succ_cons, List.take_zero, List.drop_succ_cons, List.drop_zero]
  repeat (go_big_quiet_step (fail))
  refine wpQuiet_nil ?_
  rintro _ ⟨nq2, rfl⟩
  refine wpList_copy_rw rfl _ _ 58 58 rfl 42 Tryd.underlying58 (by kernel_rfl) bv 1 7 7 ⟨bv, 0, none⟩ 7 8 rfl rfl _ tv hv [wv a, wv b, wv c, wv d, wv e, wv f, wv g] rfl ?_ (by simp) (by simp [Value.oneCell']) _ rfl ?_
  · intro j u hj
    match j, hj with
    | 0, hj => simp at hj; subst hj; simpa [Addr.add] using c0
    | 1, hj => simp at hj; subst hj; simpa [Addr.add] using c1
    | 2, hj => simp at hj; subst hj; simpa [Addr.add] using c2
    | 3, hj => simp at hj; subst hj; simpa [Addr.add] using c3
    | 4, hj => simp at hj; subst hj; simpa [Addr.add] using c4
    | 5, hj => simp at hj; subst hj; simpa [Addr.add] using c5
    | 6, hj => simp at hj; subst hj; simpa [Addr.add] using c6
    | n + 7, hj => simp at hj
  intro w2 hr2 ht2
  have ht : Turns (· = bv) w w2 := (((Turns.refl _ w).drewN _).drewN _).drewN _ |>.trans ht2
  clear ht2 c0 c1 c2 c3 c4 c5 c6 c7 ck cx
  have c0 : w2.cell? ⟨bv, 0, none⟩ = some (wv a) := hr2.cell rfl
  have c4 : w2.cell? ⟨bv, 4, none⟩ = some (wv d) := hr2.cell rfl
  have f0 := hr2.free 0
  have f4 := hr2.free 4
  refine wpList_nil ?_
  go_wp2
  go_end0
  refine ⟨rfl, ?_, ?_⟩
  · have := (hr2.set 4 (wv (d + tOf e f g hh k x))).set 0 (wv (tOf e f g hh k x + uOf a b c))
    simpa [tOf, uOf] using this
  · exact (ht.setCell (fun _ => rfl) _).setCell (fun _ => rfl) _
end Go.Proofs.YtpbahoapjkmcjaaDoor
