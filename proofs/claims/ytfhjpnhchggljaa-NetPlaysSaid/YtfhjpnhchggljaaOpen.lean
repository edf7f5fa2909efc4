/-
  Opening what comes in: an act, a row of acts.
-/
import Derived.Test.YtfhjpnhchggljaaWakes
import Derived.ProofKit
import Derived.OpenShut
import Derived.ChangeOld
import Derived.Deep.DeepHandedRow
import Derived.Test.YtfhjpnhchggljaaRows
namespace Go.Proofs.Ytfhjpnhchggljaa
open Go.ChangeShapes Go.WideShapes Go.ChangeAt Go.RowKit Go.Sha Go.Calm
theorem own : ownKnob Try.prog.godebug = none := by kernel_rfl
theorem laidOut : laidOutB Try.prog = true := by kernel_rfl
theorem cells3 : Try.prog.cellsOf 3 = 1 := by kernel_rfl
theorem cells5 : Try.prog.cellsOf 5 = 1 := by kernel_rfl
theorem cells31 : Try.prog.cellsOf 31 = 1 := by kernel_rfl
theorem cells34 : Try.prog.cellsOf 34 = 4 := by kernel_rfl
theorem byte_of_wf {n : Int} (h : (Lit.int .u8 n).wf = true) : n = B8 (UInt8.ofNat n.toNat) := by
  simp [Lit.wf, IntKind.min, IntKind.max, IntKind.signed, IntKind.bits] at h
  unfold B8
  rw [UInt8.toNat_ofNat']
  omega
theorem wf_u8 {n : Int} (h : (Lit.int .u8 n).wf = true) : ∃ c : Nat, n = (c : Int) ∧ c < 256 := by
  simp [Lit.wf, IntKind.min, IntKind.max, IntKind.signed, IntKind.bits] at h
  exact ⟨n.toNat, by omega, by omega⟩
theorem wf_i64 {n : Int} (h : (Lit.int .i64 n).wf = true) : -9223372036854775808 ≤ n ∧ n < 9223372036854775808 := by
  simp [Lit.wf, IntKind.min, IntKind.max, IntKind.signed, IntKind.bits] at h
  omega
theorem bytes_cells {H : Type} {enc : TypeId × Value → H} {P : Program} {W : World} {sp : Nat → Bool} {t e : TypeId} {fuel : Nat} (ht : P.underlying t = some (.slice e)) (he : P.underlying e = some (.int .u8)) (hc : P.cellsOf e = 1) {cs : List Value} {x : DataW H × List MemPlace}
    (hsp : ∀ b, sp b = true) (hf : DataW.trod enc P W 0 sp true fuel t cs = some x) : ∃ a n c b, cs = [.slice a n c] ∧ BytesOf W a n c b := by
  obtain rfl : sp = fun _ => true := funext hsp
  rcases open_ints ht he hc hf with ⟨hcs, _⟩ | ⟨x, l, c', zs, hcs, _, hl, hm, hz, _, hcell, hwz⟩
  · exact ⟨none, 0, 0, [], hcs, rfl, Nat.le_refl _, Nat.zero_le _, fun _ => ⟨rfl, rfl⟩, fun _ h => by simp at h⟩
  · have hz' : zs.length = c' := by simpa using hz
    refine ⟨some x, l, c', (zs.take l).map (fun z => UInt8.ofNat z.toNat), hcs, by simp; omega, hl, hm, fun h => by simp at h, fun ad had j hj => ?_⟩
    simp at had; subst had
    have hjz : j < zs.length := by omega
    rw [hcell j hjz]
    have hw := hwz zs[j] (List.getElem_mem hjz)
    have := byte_of_wf hw
    simp [hjz, hj, ← this]
/-- An act, as it came. -/
structure AA where
  d : Int
  i : Int
  to : Nat
  p : Option Addr
  n : Nat
  c : Nat
  b : List UInt8
def AA.cells (a : AA) : List Value := [.int .i64 a.d, .int .i64 a.i, .int .u8 a.to, .slice a.p a.n a.c]
structure AA.ok (W : World) (a : AA) : Prop where
  d : -9223372036854775808 ≤ a.d ∧ a.d < 9223372036854775808
  i : -9223372036854775808 ≤ a.i ∧ a.i < 9223372036854775808
  to : a.to < 256
  b : BytesOf W a.p a.n a.c a.b
theorem act_cells {H : Type} {enc : TypeId × Value → H} {W : World} {fuel : Nat} {cs : List Value} {x : DataW H × List MemPlace} (h : DataW.trod enc Try.prog W 0 (fun _ => true) true fuel 34 cs = some x) : ∃ a : AA, cs = a.cells ∧ a.ok W := by
  obtain ⟨xs, m, _, _, hl, hxl, hf⟩ := DataW.trod_struct Try.underlying34 h
  rw [cells34] at hl
  match cs, hl with
  | [c0, c1, c2, c3], _ =>
    have g0 := hf 0 _ rfl
    have g1 := hf 1 _ rfl
    have g2 := hf 2 _ rfl
    have g3 := hf 3 _ rfl
    match xs, hxl with
    | [x0, x1, x2, x3], _ =>
      simp [cells3, cells5, cells31] at g0 g1 g2 g3
      obtain ⟨d, e0, _, w0⟩ := DataW.trod_int Try.underlying3 g0
      obtain ⟨i, e1, _, w1⟩ := DataW.trod_int Try.underlying3 g1
      obtain ⟨t, e2, _, w2⟩ := DataW.trod_int Try.underlying5 g2
      obtain ⟨to, rfl, ht⟩ := wf_u8 w2
      obtain ⟨p, n, c, b, e3, hb⟩ := bytes_cells Try.underlying31 Try.underlying5 cells5 (fun _ => rfl) g3
      refine ⟨⟨d, i, to, p, n, c, b⟩, ?_, wf_i64 w0, wf_i64 w1, ht, hb⟩
      simp at e0 e1 e2 e3
      simp [AA.cells, e0, e1, e2, e3]
theorem open_act {H : Type} {enc : TypeId × Value → H} {W : World} {r : Reach} {b0 : Nat} {v : Value} {d : DataW H} {p : List MemPlace}
    (hv : Value.okWide Try.prog W r b0 34 v) (h : DataW.Trod enc Try.prog W 0 (fun _ => true) true 34 v d p) : ∃ a : AA, v = .agg a.cells.toArray ∧ a.ok W := by
  simp only [Value.okWide, Try.underlying34] at hv
  obtain ⟨cs, rfl, hsz, _⟩ := hv
  obtain ⟨fuel, hf⟩ := h
  have hcl : (Value.agg cs).cells.toList = cs.toList := by simp [Value.cells]
  rw [hcl] at hf
  obtain ⟨a, ha, hok⟩ := act_cells hf
  exact ⟨a, by rw [← ha], hok⟩
end Go.Proofs.Ytfhjpnhchggljaa
