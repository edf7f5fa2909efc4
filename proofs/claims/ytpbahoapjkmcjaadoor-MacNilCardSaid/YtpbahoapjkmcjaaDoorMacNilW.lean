/-
  No pen has the zero digest: the walk of MacNil.
-/
import Derived.Test.YtpbahoapjkmcjaaDoorMacWakes
import Derived.Test.YtpbahoapjkmcjaaDoorNilW
namespace Go.Proofs.YtpbahoapjkmcjaaDoor
open Go.RowKit Go.Sha Go.Calm
theorem macNil_walk (v : Value) (w : World) (hK : HasK w) : Calls Tryd.prog 9 #[v] w fun en w' => en = .returned (.bool true) ∧ Below w.heap.size w w' := by
  have HK := Calm.hid hK
  have hg := Tryd.noGuard25
  have hz := eq25_zero
  clear hK
  go_enter Tryd.func9, Tryd.ntmps9
  go_wp2_with fail
  refine (penWrite_nil _ _).mono ?_
  rintro en w1 ⟨rfl, rfl⟩
  go_wp2_with fail
  refine (penSum_nil _).mono ?_
  rintro en w1 ⟨rfl, hb1⟩
  have HB1 := Calm.hid hb1
  clear hb1
  go_wp2_with fail
  refine (wakes2_any w1 (HK.out.below HB1.out)).mono ?_
  rintro en w2 ⟨rfl, hb2⟩
  have HB2 := Calm.hid hb2
  clear hb2
  go_wp2
  go_ret
  exact ⟨rfl, HB1.out.trans (HB2.out.mono HB1.out.size)⟩
/-- The same walk in the shape in which the card's text takes it. -/
theorem macNil_card (b : List UInt8) (p : Option Addr) (c : Nat) (w : World) (_ : BytesOf w p b.length c b) (hK : HasK w) : Calls Tryd.prog 9 #[.slice p b.length c] w fun en w' => en = .returned (.bool true) ∧ Below w.heap.size w w' := macNil_walk _ w hK
end Go.Proofs.YtpbahoapjkmcjaaDoor
