/-
  slices.Clone of bytes.
-/
import Derived.Test.YtfhjpnhchggljaaNil
import Derived.Lib.SliceRun
namespace Go.Proofs.Ytfhjpnhchggljaa
open Go.RowKit Go.Sha Go.Calm
attribute [local go_sem] Oper.semAt_some
theorem Try.info5 : (Try.prog.info? 5).map (fun i => (i.zero, i.size, i.bytes)) = some (some (.int .u8 0), 1, 1) := by kernel_rfl
set_option maxRecDepth 100000 in
theorem clone_any (p : Option Addr) (n c : Nat) (l : List UInt8) (w : World) (hb : BytesOf w p n c l) (hn : n ≤ 65536) :
    Calls Try.prog 25 #[.slice p n c] w fun e w' => ∃ q c', e = .returned (.slice q n c') ∧ BytesOf w' q n c' l ∧ (∀ ad, q = some ad → w.heap.size ≤ ad.block) ∧ Below w.heap.size w w' := by
  obtain ⟨i0, hi0, hz0, hz1, hz2⟩ := info_parts Try.info5
  have q31 : ∀ (w : World) (a : Option Addr) (n c n' c' : Nat), (binOp .eql 31 (.slice a n c) (.slice none n' c')).run Try.prog w = .ok (.bool a.isNone) w := fun w a n c n' c' => Lib.run_eql_slice_nil w _ _ a n c n' c' Try.underlying31
  have HQ := Calm.hid hb
  clear hb
  cases p with
  | none =>
    obtain ⟨rfl, rfl⟩ := HQ.out.nil rfl
    go_enter Try.func25, Try.ntmps25
    go_wp2
    go_ret
    exact ⟨none, 0, rfl, HQ.out, (fun ad h => by cases h), Below.refl _ _⟩
  | some ad =>
    go_enter Try.func25, Try.ntmps25
    go_wp2_with (at_builtin; refine wpList_append_any rfl (.tmp 5) (.tmp 6) 31 rfl w.heap.size 5 i0 (.int .u8 0) 1 1 Try.underlying31 hi0 hz0 hz1 hz2 rfl (by decide) _ _ _ rfl (World.ownsRow_made w #[] 0 (Nat.le_refl _) (Nat.zero_le _) rfl) (some ad) n c (l.map bv) rfl (by simp [HQ.out.len]) HQ.out.nil (HQ.out.alloc _).news (BytesOf.one _) ?_ ?_ ?_ ?_)
    · simp only [maxLen]; omega
    · omega
    · simp
    · intro v' w' ho hg
      have HO := Calm.hid ho
      have HG := Calm.hid hg
      clear ho hg
      go_wp2
      go_ret
      obtain ⟨q, c', rfl, hq, hown⟩ := BytesOf.own HO.out
      refine ⟨q, c', rfl, hq, fun a ha => (hown a ha).2.2.1, ?_⟩
      exact ((Below.refl w.heap.size w).alloc (Nat.le_refl _) _).grown HG.out (by simp) (fun k hk => by simp [Value.ownBlock] at hk; omega)
end Go.Proofs.Ytfhjpnhchggljaa
