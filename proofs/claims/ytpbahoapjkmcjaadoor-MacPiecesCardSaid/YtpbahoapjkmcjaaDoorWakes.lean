/-
  Wakes of the first law package: the digest of three known bytes has the known text.
-/
import Derived.Test.YtpbahoapjkmcjaaDoorOf
import Derived.Lib.SlBytesConst
namespace Go.Proofs.YtpbahoapjkmcjaaDoor
open Go.RowKit Go.Sha Go.Calm
theorem abc_text : hexOf (digest [97, 98, 99]) = [98, 97, 55, 56, 49, 54, 98, 102, 56, 102, 48, 49, 99, 102, 101, 97, 52, 49, 52, 49, 52, 48, 100, 101, 53, 100, 97, 101, 50, 50, 50, 51, 98, 48, 48, 51, 54, 49, 97, 51, 57, 54, 49, 55, 55, 97, 57, 99, 98, 52, 49, 48, 102, 102, 54, 49, 102, 50, 48, 48, 49, 53, 97, 100] := by decide +kernel
theorem lit_bytes (w : World) (l : List UInt8) (fr : Nat × Nat) (hl : l.length ≤ maxLen) : BytesOf (w.alloc (.cells (l.map bv).toArray 5 fr)) (some ⟨w.heap.size, 0, none⟩) l.length l.length l :=
  ⟨rfl, Nat.le_refl _, hl, fun h => by simp at h, fun ad had j hj => by
    simp at had; subst had
    rw [add_plain, Nat.zero_add, cell_of_row _ _ _ _ _ _ (heap_alloc_new w _)]
    simp [hj]⟩

set_option maxRecDepth 100000 in
theorem wakes_any (w : World) (hK : HasK w) : Calls Tryd.prog 13 #[] w fun en w' => en = .returned (.bool true) ∧ Below w.heap.size w w' := by
  have HK := Calm.hid hK
  have HT := Calm.hid abc_text
  clear hK
  have kc := fun (w : World) (C : Array Value) (n c : Nat) => Lib.run_convert_bytes_const (P := Tryd.prog) w 22 5 C n c Tryd.underlying22 Tryd.underlying5
  go_enter Tryd.func13, Tryd.ntmps13
  go_wp2_with fail
  refine (of_any [97, 98, 99] _ _ _ (lit_bytes w [97, 98, 99] _ (by decide)) (by decide) (HK.out.turns ((Turns.refl (fun _ => False) w).alloc _) (fun h => h))).mono ?_
  rintro en w1 ⟨rfl, hb1⟩
  have hB1 := Calm.hid (((Turns.refl (fun _ => False) w).alloc _).trans (Turns.of_below hb1))
  clear hb1
  go_wp2_with fail
  refine (text_any (digest [97, 98, 99]) (digest_length _) _).mono ?_
  rintro en w2 ⟨rfl, hb2⟩
  have hB2 := Calm.hid (hB1.out.trans (Turns.of_below hb2))
  clear hb2 hB1
  rw [HT.out]
  go_wp2
  go_ret
  exact ⟨rfl, hB2.out.below (fun _ _ h => h)⟩
end Go.Proofs.YtpbahoapjkmcjaaDoor
