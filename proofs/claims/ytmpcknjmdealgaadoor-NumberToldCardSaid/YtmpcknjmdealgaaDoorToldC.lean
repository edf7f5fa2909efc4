/-
  The walk of NumberTold in the shape in which the card's text takes it.
-/
import Derived.Test.YtmpcknjmdealgaaDoorToldW
namespace Go.Proofs.YtmpcknjmdealgaaDoor
open Go.RowKit Go.Sha Go.Calm
theorem told_card (c s : Nat) (a d : Int) (w : World) (hc : c < 256) (hs : s < 18446744073709551616) (_ : (Lit.int .i64 a).wf = true) (hd : (Lit.int .u8 d).wf = true) (ht : HasT w) :
    Calls Tryd.prog 6 #[.agg #[.int .u8 c, .int .u64 s], .int .i64 a, .int .u8 d] w fun e w' => e = .returned (.bool true) ∧ Below w.heap.size w w' := by
  have h1 : (-1 : Int) < d ∧ d < 256 := by
    have h2 := hd
    simp [Lit.wf] at h2
    have e1 : IntKind.u8.min = 0 := rfl
    have e2 : IntKind.u8.max = 255 := rfl
    omega
  obtain ⟨n, rfl⟩ : ∃ n : Nat, d = (n : Int) := ⟨d.toNat, by omega⟩
  exact told_walk c s a n w hc hs (by omega) ht
end Go.Proofs.YtmpcknjmdealgaaDoor
