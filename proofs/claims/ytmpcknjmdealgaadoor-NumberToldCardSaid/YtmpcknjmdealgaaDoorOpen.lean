/-
  Opening what comes in: a ticket; the table of powers.
-/
import Derived.Test.YtmpcknjmdealgaaDoorTellsW
import Derived.ProofKit
import Derived.OpenShut
import Derived.ShutString
import Derived.ChangeOld
import Derived.ChangeMaps5
import Derived.Deep.DeepHandedRow
import Derived.Lib.LaidTab
import Derived.Stop.LaidErr
import Derived.Test.YtmpcknjmdealgaaDoorRows
namespace Go.Proofs.YtmpcknjmdealgaaDoor
open Go.ChangeShapes Go.WideShapes Go.ChangeAt Go.RowKit Go.Sha Go.Calm
theorem own : ownKnob Tryd.prog.godebug = none := by kernel_rfl
theorem laidOut : laidOutB Tryd.prog = true := by kernel_rfl
theorem gPowType : (Tryd.prog.globals[0]?).map (·.type) = some 57 := by kernel_rfl
theorem cells57 : Tryd.prog.cellsOf 57 = 20 := by kernel_rfl
theorem cells22 : Tryd.prog.cellsOf 22 = 1 := by kernel_rfl
theorem cells24 : Tryd.prog.cellsOf 24 = 2 := by kernel_rfl
theorem hasT_of {W : World} (h : laidMetH Tryd.prog Rows.numberTextsRow.laid W) : HasT W := by
  have h1 : laidMet Tryd.prog Rows.numberTextsRow.laid W := h
  have h2 : laidMet Tryd.prog [("internal/strconv.uint64pow10", Rows.laid_internal_strconv_uint64pow10)] W := h1.tail.tail
  exact Lib.tabIs_of_head (rest := []) gPow gPowType Tryd.underlying57 Tryd.underlying22 cells22 cells57 h2
theorem wf_u8 {n : Int} (h : (Lit.int .u8 n).wf = true) : ∃ c : Nat, n = (c : Int) ∧ c < 256 := by
  simp [Lit.wf, IntKind.min, IntKind.max, IntKind.signed, IntKind.bits] at h
  exact ⟨n.toNat, by omega, by omega⟩
theorem wf_u64 {n : Int} (h : (Lit.int .u64 n).wf = true) : ∃ c : Nat, n = (c : Int) ∧ c < 18446744073709551616 := by
  simp [Lit.wf, IntKind.min, IntKind.max, IntKind.signed, IntKind.bits] at h
  exact ⟨n.toNat, by omega, by omega⟩
theorem open_ticket {H : Type} {enc : TypeId × Value → H} {W : World} {r : Reach} {b0 : Nat} {v : Value} {d : DataW H} {p : List MemPlace}
    (hv : Value.okWide Tryd.prog W r b0 24 v) (h : DataW.Trod enc Tryd.prog W 0 (fun _ => true) true 24 v d p) : ∃ c s : Nat, c < 256 ∧ s < 18446744073709551616 ∧ v = .agg #[.int .u8 c, .int .u64 s] := by
  simp only [Value.okWide, Tryd.underlying24] at hv
  obtain ⟨cs, rfl, hsz, _⟩ := hv
  rw [cells24] at hsz
  obtain ⟨fuel, hf⟩ := h
  obtain ⟨y0, y1, n, _, hl, h0, h1⟩ := Go.ChangeShapes.trod_struct2 Tryd.underlying24 hf
  have hcl : (Value.agg cs).cells.toList = cs.toList := by simp [Value.cells]
  rw [hcl] at h0 h1
  obtain ⟨x, y, hxy⟩ : ∃ x y, cs.toList = [x, y] := by
    match hm : cs.toList, (show cs.toList.length = 2 by simpa using hsz) with
    | [x, y], _ => exact ⟨x, y, rfl⟩
  rw [hxy] at h0 h1
  rw [show Tryd.prog.cellsOf 5 = 1 by kernel_rfl] at h0
  rw [show Tryd.prog.cellsOf 22 = 1 by kernel_rfl] at h1
  obtain ⟨a, e0, _, w0⟩ := DataW.trod_int Tryd.underlying5 h0
  obtain ⟨b, e1, _, w1⟩ := DataW.trod_int Tryd.underlying22 h1
  obtain ⟨c, rfl, hc⟩ := wf_u8 w0
  obtain ⟨s, rfl, hs⟩ := wf_u64 w1
  refine ⟨c, s, hc, hs, ?_⟩
  congr 1
  apply Array.toList_inj.1
  rw [hxy]
  simp at e0 e1
  rw [e0, e1]
/-- A row laid over a variable's. -/
def laidRow (cs : Array Value) : Obj → Obj
  | .cells _ t frozen => .cells cs t frozen
  | o => o
/-- The walks in the shape in which the cards' texts take them. -/
theorem texts_card (c s : Nat) (w : World) (hc : c < 256) (hs : s < 18446744073709551616) (ht : HasT w) :
    Calls Tryd.prog 3 #[.agg #[.int .u8 c, .int .u64 s]] w fun e w' => e = .returned (.bool true) ∧ Below w.heap.size w w' := texts_walk c s hc hs w ht
theorem parses_card (b : ByteArray) (w : World) (_ : b.size ≤ maxLen) (ht : HasT w) :
    Calls Tryd.prog 4 #[.string b] w fun e w' => e = .returned (.bool true) ∧ Below w.heap.size w w' := by
  have e : b = ⟨b.data.toList.toArray⟩ := by cases b; simp
  have h := parses_walk b.data.toList w ht
  rw [← e] at h
  exact h
end Go.Proofs.YtmpcknjmdealgaaDoor
