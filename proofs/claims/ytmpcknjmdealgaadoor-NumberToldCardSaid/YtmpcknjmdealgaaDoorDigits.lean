/-
  digits(s): what a range over it gives, one byte behind the other.
-/
import Derived.Test.YtmpcknjmdealgaaDoorProg
import Derived.Test.YtmpcknjmdealgaaDoorCalmIn
import Derived.Test.YtmpcknjmdealgaaDoorBytes
import Derived.RangeFuncNested
import Derived.RangeFuncBound
import Derived.RangeFuncCalls
import Derived.RangeFuncLeaves
import Derived.RangeFuncFrom
import Derived.Shelf.Abstract
import Derived.WalkKit
import Derived.WalkSpells
import Derived.WalkLawsBesides
import Derived.Deep.QuietTactic
import Derived.BigQuiet
import Derived.OwnWalkIn
import Derived.TacticsInMore
import Derived.LoopNIn
import Derived.LoopIn
namespace Go.Proofs.YtmpcknjmdealgaaDoor
open Go.RowKit Go.Sha Go.Calm Go.Shelf
attribute [local go_sem] Oper.semAt_some

theorem index_str (s : ByteArray) (l : List UInt8) (hs : s = ⟨l.toArray⟩) (k : Nat) (hk : k < l.length) (w : World) : (Instr.index 9 (.string s) (.int .i64 k)).run Tryd.prog w = .ok (bv (l.getD k 0)) w := by
  have hu := run_underlying (w := w) (show Tryd.prog.underlying 9 = some .string from Tryd.underlying9)
  have hg : s[k]? = some (l.getD k 0) := by
    rw [hs]
    show (l.toArray)[k]? = _
    simp [hk]
  simp [Instr.index, asIntOf, hu, hg, B8]
/-- The string's cell is kept. -/
def KeepsStr (Bn : Nat) (A B : World) : Prop := B.cell? ⟨Bn, 0, none⟩ = A.cell? ⟨Bn, 0, none⟩
/-- What a byte counts, and whether it is a digit. -/
def dval (c : UInt8) : Int := (B8 c - 48) % 256
def isDig (c : UInt8) : Bool := decide (48 ≤ B8 c) && decide (B8 c ≤ 57)
set_option maxRecDepth 100000 in
set_option maxHeartbeats 1000000 in
theorem digits1_in (n : Nat) (hn : 1 ≤ n) (l Bn : Nat) (bs : List UInt8) (hmax : bs.length ≤ 4611686018427387904) (B0 : Nat) (J Jx : List UInt8 → World → Prop) (hJ : AbidesFrom B0 J)
    (hY : ∀ pre x W, J pre W → pre.length < bs.length → YieldAt Fence.wide (n - 1) Tryd.prog l #[.int .u64 (dval x), .bool (isDig x)] W fun e W' =>
      (e = .returned (.bool true) ∧ J (pre ++ [x]) W' ∧ KeepsStr Bn W W') ∨ (e = .returned (.bool false) ∧ Jx (pre ++ [x]) W'))
    (W : World) (hBs : W.cell? ⟨Bn, 0, none⟩ = some (.string ⟨bs.toArray⟩)) (h0 : J [] W) :
    CallsIn Fence.wide n Tryd.prog 24 #[.func (.yield l) #[] #[], .pointer (some ⟨Bn, 0, none⟩)] W fun e W' => (∃ v, e = .returned v) ∧
      ((∃ ys, ys = bs ∧ J ys W') ∨ (∃ pre, pre <+: bs ∧ Jx pre W')) := by
  obtain ⟨s, hs⟩ : ∃ s : ByteArray, s = ⟨bs.toArray⟩ := ⟨_, rfl⟩
  have hsz : s.size = bs.length := by rw [hs]; simp [ByteArray.size]
  rw [← hs] at hBs
  have HS := Calm.hid hs
  clear hs
  refine callsIn_of_wp Tryd.func24 rfl trivial ?_ rfl
  simp only [Tryd.ntmps24, List.size_toArray, List.length_cons, List.length_nil, Nat.reduceAdd, Nat.reduceSub, Array.replicate_succ, Array.replicate_zero, List.push_toArray, List.append_toArray, List.nil_append, List.cons_append]
  gi_wp2
  gi_loopw [6] (fun i wr => ∃ k : Nat, k ≤ bs.length ∧ i = .int .i64 k ∧ J (bs.take k) wr ∧ KeepsStr Bn W wr)
    (fun i _ => bs.length - (intOf i).toNat)
  case atStart => exact ⟨0, Nat.zero_le _, rfl, h0, rfl⟩
  case round =>
    obtain ⟨k, hk, rfl, hJs, hnx⟩ := hrel
    by_cases hlt : k < bs.length
    · obtain ⟨x, hx⟩ : ∃ x, x = bs.getD k 0 := ⟨_, rfl⟩
      have hxi := fun w => index_str s bs HS.out k hlt w
      rw [← hx] at hxi
      have HX := Calm.hid hx
      clear hx
      have cw : wr.cell? ⟨Bn, 0, none⟩ = some (.string s) := Eq.trans hnx hBs
      have hround := fun W' hJ' => hY (bs.take k) x W' hJ' (by rw [List.length_take]; omega)
      have HTK : Hid (bs.take k ++ [x] = bs.take (k + 1)) := by
        show bs.take k ++ [x] = bs.take (k + 1)
        rw [HX.out, List.take_add_one]; simp [hlt]
      have hab : ∀ nq, J (bs.take k) (wr.drewN nq) := fun nq => hJ _ wr (wr.drewN nq) none hJs ⟨rfl, rfl, rfl, Nat.le_refl _, fun _ _ _ => rfl⟩ (fun r e => by cases e)
      have HR := Calm.hid hround
      have HA := Calm.hid hab
      clear hround hab
      gi_wp2
      refine Calm.region_dIn 16 (by kernel_rfl) (by kernel_rfl) ?_
      simp only [List.take_succ_cons, List.take_zero, List.drop_succ_cons, List.drop_zero]
      have hcases : (decide (48 ≤ B8 x) = true ∧ decide (B8 x ≤ 57) = true ∧ isDig x = true) ∨ (decide (48 ≤ B8 x) = true ∧ decide (B8 x ≤ 57) = false ∧ isDig x = false) ∨ (decide (48 ≤ B8 x) = false ∧ isDig x = false) := by
        unfold isDig
        cases h1 : decide (48 ≤ B8 x) <;> cases h2 : decide (B8 x ≤ 57) <;> simp
      rcases hcases with ⟨hd1, hd2, hd⟩ | ⟨hd1, hd2, hd⟩ | ⟨hd1, hd⟩
      all_goals
        repeat (go_big_quiet_step (fail))
        refine wpQuiet_nil ?_
        rintro _ ⟨nq, rfl⟩
        obtain ⟨fn, tmps, assign, body, hy, hR⟩ := HR.out (wr.drewN nq) (HA.out nq)
        rw [hd] at hy
        dsimp only [dval] at hy
        gi_wp2
        refine hR.mono ?_
        rintro e W3 (⟨rfl, hJ3, hk3⟩ | ⟨rfl, hJx3⟩)
        · have HN : Hid (KeepsStr Bn W W3) := Eq.trans hk3 hnx
          rw [HTK.out] at hJ3
          have HJ3 := Calm.hid hJ3
          clear hJ3 hk3
          gi_wp2
          go_roundw
          case rel => exact ⟨k + 1, by omega, by go_num, HJ3.out, HN.out⟩
          case measure => simp [intOf]; omega
        · rw [HTK.out] at hJx3
          have HJ3 := Calm.hid hJx3
          clear hJx3
          gi_wp2
          refine bodyPost_ret (results_none rfl _ _ _) rfl ?_
          exact ⟨⟨_, rfl⟩, .inr ⟨bs.take (k + 1), List.take_prefix _ _, HJ3.out⟩⟩
    · have HK : Hid (bs.take k = bs) := List.take_of_length_le (by omega)
      rw [HK.out] at hJs
      gi_wp2
      go_end0
      exact ⟨⟨_, rfl⟩, .inl ⟨_, rfl, hJs⟩⟩
end Go.Proofs.YtmpcknjmdealgaaDoor
