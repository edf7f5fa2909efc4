/-
  Wakes of the second law package: the mac of known bytes under a known key has the known text.
-/
import Derived.Test.YtpbahoapjkmcjaaDoorMacOf
import Derived.Test.YtpbahoapjkmcjaaDoorWakes
namespace Go.Proofs.YtpbahoapjkmcjaaDoor
open Go.RowKit Go.Sha Go.Calm
def jefe : List UInt8 := [74, 101, 102, 101]
def whatDo : List UInt8 := [119, 104, 97, 116, 32, 100, 111, 32, 121, 97, 32, 119, 97, 110, 116, 32, 102, 111, 114, 32, 110, 111, 116, 104, 105, 110, 103, 63]
theorem jefe_text : hexOf (macD jefe whatDo) = [53, 98, 100, 99, 99, 49, 52, 54, 98, 102, 54, 48, 55, 53, 52, 101, 54, 97, 48, 52, 50, 52, 50, 54, 48, 56, 57, 53, 55, 53, 99, 55, 53, 97, 48, 48, 51, 102, 48, 56, 57, 100, 50, 55, 51, 57, 56, 51, 57, 100, 101, 99, 53, 56, 98, 57, 54, 52, 101, 99, 51, 56, 52, 51] := by decide +kernel
set_option maxRecDepth 100000 in
set_option maxHeartbeats 400000 in
theorem wakes2_any (w : World) (hK : HasK w) : Calls Tryd.prog 22 #[] w fun en w' => en = .returned (.bool true) ∧ Below w.heap.size w w' := by
  have HK := Calm.hid hK
  have HT := Calm.hid jefe_text
  clear hK
  have h1 : BytesOf ((w.alloc (.cells (jefe.map bv).toArray 5 (4, 5))).alloc (.cells (whatDo.map bv).toArray 5 (28, 29))) (some ⟨w.heap.size, 0, none⟩) 4 4 jefe := (lit_bytes w jefe (4, 5) (by decide)).alloc _
  have h2 : BytesOf ((w.alloc (.cells (jefe.map bv).toArray 5 (4, 5))).alloc (.cells (whatDo.map bv).toArray 5 (28, 29))) (some ⟨w.heap.size + 1, 0, none⟩) 28 28 whatDo := by
    have := lit_bytes (w.alloc (.cells (jefe.map bv).toArray 5 (4, 5))) whatDo (28, 29) (by decide)
    rw [World.size_alloc] at this; exact this
  have H1 := Calm.hid h1
  have H2 := Calm.hid h2
  clear h1 h2
  have kc := fun (w : World) (C : Array Value) (n c : Nat) => Lib.run_convert_bytes_const (P := Tryd.prog) w 22 5 C n c Tryd.underlying22 Tryd.underlying5
  have kc2 := fun (w : World) (A : Array Value) (f : Nat × Nat) (C : Array Value) (n c : Nat) => Lib.run_convert_bytes_const (P := Tryd.prog) (w.alloc (.cells A 5 f)) 22 5 C n c Tryd.underlying22 Tryd.underlying5
  simp only [World.size_alloc] at kc2
  go_enter Tryd.func22, Tryd.ntmps22
  go_wp2_with fail
  have e1 : (#[.int .u8 74, .int .u8 101, .int .u8 102, .int .u8 101] : Array Value) = (jefe.map bv).toArray := by kernel_rfl
  have e2 : (#[.int .u8 119, .int .u8 104, .int .u8 97, .int .u8 116, .int .u8 32, .int .u8 100, .int .u8 111, .int .u8 32, .int .u8 121, .int .u8 97, .int .u8 32, .int .u8 119, .int .u8 97, .int .u8 110, .int .u8 116, .int .u8 32, .int .u8 102, .int .u8 111, .int .u8 114, .int .u8 32, .int .u8 110, .int .u8 111, .int .u8 116, .int .u8 104, .int .u8 105, .int .u8 110, .int .u8 103, .int .u8 63] : Array Value) = (whatDo.map bv).toArray := by kernel_rfl
  rw [e1, e2]
  clear e1 e2
  refine (macOf_any jefe whatDo 4 28 _ _ _ _ _ H1.out H2.out (by decide) (by decide) (HK.out.turns (((Turns.refl (fun _ => False) w).alloc _).alloc _) (fun h => h))).mono ?_
  rintro en w1 ⟨rfl, hb1⟩
  have HB1 := Calm.hid ((((Turns.refl (fun _ => False) w).alloc _).alloc _).trans (Turns.of_below hb1))
  clear hb1
  go_wp2_with fail
  refine (textR_any (macD jefe whatDo) (digest_length _) _).mono ?_
  rintro en w2 ⟨rfl, hb2⟩
  have HB2 := Calm.hid (HB1.out.trans (Turns.of_below hb2))
  clear hb2
  rw [HT.out]
  go_wp2
  go_ret
  exact ⟨rfl, HB2.out.below (fun _ _ h => h)⟩
end Go.Proofs.YtpbahoapjkmcjaaDoor
