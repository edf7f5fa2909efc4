/-
  Opening what comes in: slices of bytes and of ints, digests, the table of constants.
-/
import Derived.Test.YtpbahoapjkmcjaaDoorOf
import Derived.Test.YtpbahoapjkmcjaaDoorCut
import Derived.ProofKit
import Derived.OpenShut
import Derived.ShutString
import Derived.ChangeOld
import Derived.Deep.DeepHandedRow
import Derived.Lib.LaidTab
import Derived.Test.YtpbahoapjkmcjaaDoorRows
namespace Go.Proofs.YtpbahoapjkmcjaaDoor
open Go.ChangeShapes Go.WideShapes Go.ChangeAt Go.RowKit Go.Sha Go.Calm
theorem own : ownKnob Tryd.prog.godebug = none := by kernel_rfl
theorem laidOut : laidOutB Tryd.prog = true := by kernel_rfl
theorem gTab : Tryd.prog.globalNamed "tarmac/sha.constants" = some 0 := by kernel_rfl
theorem gTabType : (Tryd.prog.globals[0]?).map (·.type) = some 54 := by kernel_rfl
theorem cells54 : Tryd.prog.cellsOf 54 = 64 := by kernel_rfl
theorem cells42 : Tryd.prog.cellsOf 42 = 1 := by kernel_rfl
def kNums : List Int := [1116352408, 1899447441, 3049323471, 3921009573, 961987163, 1508970993, 2453635748, 2870763221, 3624381080, 310598401, 607225278, 1426881987, 1925078388, 2162078206, 2614888103, 3248222580, 3835390401, 4022224774, 264347078, 604807628, 770255983, 1249150122, 1555081692, 1996064986, 2554220882, 2821834349, 2952996808, 3210313671, 3336571891, 3584528711, 113926993, 338241895, 666307205, 773529912, 1294757372, 1396182291, 1695183700, 1986661051, 2177026350, 2456956037, 2730485921, 2820302411, 3259730800, 3345764771, 3516065817, 3600352804, 4094571909, 275423344, 430227734, 506948616, 659060556, 883997877, 958139571, 1322822218, 1537002063, 1747873779, 1955562222, 2024104815, 2227730452, 2361852424, 2428436474, 2756734187, 3204031479, 3329325298]
theorem kNums_K : ∀ i, i < 64 → kNums.getD i 0 = U (K i) := by decide +kernel
theorem hasK_of {W : World} (h : laidMetH Tryd.prog Rows.shaNilRow.laid W) : HasK W := by
  have ht : Lib.TabIs Tryd.prog W "tarmac/sha.constants" .u32 kNums := Lib.tabIs_of_head (rest := []) gTab gTabType Tryd.underlying54 Tryd.underlying42 cells42 cells54 h
  intro i hi
  show W.cell? _ = some (.int .u32 (U (K i)))
  rw [← kNums_K i hi]
  exact ht.cell gTab i hi
theorem byte_of_wf {n : Int} (h : (Lit.int .u8 n).wf = true) : n = B8 (UInt8.ofNat n.toNat) := by
  simp [Lit.wf, IntKind.min, IntKind.max, IntKind.signed, IntKind.bits] at h
  unfold B8
  rw [UInt8.toNat_ofNat']
  omega
theorem open_bytes {H : Type} {enc : TypeId × Value → H} {P : Program} {W : World} {t e : TypeId} (ht : P.underlying t = some (.slice e)) (he : P.underlying e = some (.int .u8)) (hc : P.cellsOf e = 1) {a : Option Addr} {n c : Nat} {d : DataW H} {p : List MemPlace}
    (h : DataW.Trod enc P W 0 (fun _ => true) true t (.slice a n c) d p) : ∃ b, BytesOf W a n c b := by
  obtain ⟨fuel, hf⟩ := h
  rcases open_ints ht he hc hf with ⟨hcs, _⟩ | ⟨x, l, c', zs, hcs, _, hl, hm, hz, _, hcell, hwz⟩
  · simp [Value.cells] at hcs
    obtain ⟨rfl, rfl, rfl⟩ := hcs
    exact ⟨[], rfl, Nat.le_refl _, Nat.zero_le _, fun _ => ⟨rfl, rfl⟩, fun _ h => by simp at h⟩
  · simp [Value.cells] at hcs
    obtain ⟨rfl, rfl, rfl⟩ := hcs
    have hz' : zs.length = c := by simpa using hz
    refine ⟨(zs.take n).map (fun z => UInt8.ofNat z.toNat), by simp; omega, hl, hm, fun h => by simp at h, fun ad had j hj => ?_⟩
    simp at had; subst had
    have hjz : j < zs.length := by omega
    rw [hcell j hjz]
    have hw := hwz zs[j] (List.getElem_mem hjz)
    have := byte_of_wf hw
    simp [hjz, hj, ← this]
theorem open_i64s {H : Type} {enc : TypeId × Value → H} {P : Program} {W : World} {t e : TypeId} (ht : P.underlying t = some (.slice e)) (he : P.underlying e = some (.int .i64)) (hc : P.cellsOf e = 1) {a : Option Addr} {n c : Nat} {d : DataW H} {p : List MemPlace}
    (h : DataW.Trod enc P W 0 (fun _ => true) true t (.slice a n c) d p) : ∃ b, IntsOf W a n c b := by
  obtain ⟨fuel, hf⟩ := h
  rcases open_ints ht he hc hf with ⟨hcs, _⟩ | ⟨x, l, c', zs, hcs, _, hl, hm, hz, _, hcell, hwz⟩
  · simp [Value.cells] at hcs
    obtain ⟨rfl, rfl, rfl⟩ := hcs
    exact ⟨[], rfl, Nat.le_refl _, Nat.zero_le _, fun _ => ⟨rfl, rfl⟩, fun _ h => by simp at h⟩
  · simp [Value.cells] at hcs
    obtain ⟨rfl, rfl, rfl⟩ := hcs
    have hz' : zs.length = c := by simpa using hz
    refine ⟨zs.take n, by simp; omega, hl, hm, fun h => by simp at h, fun ad had j hj => ?_⟩
    simp at had; subst had
    have hjz : j < zs.length := by omega
    rw [hcell j hjz]
    simp [hjz, hj]
theorem all_bv : ∀ l : List Value, (∀ v ∈ l, ∃ x : UInt8, v = bv x) → ∃ b : List UInt8, l = b.map bv
  | [], _ => ⟨[], rfl⟩
  | v :: l, h => by
    obtain ⟨x, rfl⟩ := h v (by simp)
    obtain ⟨b, rfl⟩ := all_bv l (fun v hv => h v (by simp [hv]))
    exact ⟨x :: b, rfl⟩
theorem open_digest {H : Type} {enc : TypeId × Value → H} {P : Program} {W : World} {r : Reach} {b0 : Nat} {t e : TypeId} (ht : P.underlying t = some (.array 32 e)) (he : P.underlying e = some (.int .u8)) (hc : P.cellsOf e = 1) (hct : P.cellsOf t = 32) {v : Value} {d : DataW H} {p : List MemPlace}
    (hv : Value.okWide P W r b0 t v) (h : DataW.Trod enc P W 0 (fun _ => true) true t v d p) : ∃ b : List UInt8, b.length = 32 ∧ v = .agg (arr b) := by
  simp only [Value.okWide, ht] at hv
  obtain ⟨cs, rfl, hsz, _⟩ := hv
  rw [hct] at hsz
  obtain ⟨fuel, hf⟩ := h
  obtain ⟨xs, m, hm, hx, hlen, hl, hel⟩ := DataW.trod_array ht hf
  have hcl : (Value.agg cs).cells.toList = cs.toList := by simp [Value.cells]
  rw [hcl, hc] at hel
  obtain ⟨b, hb⟩ := all_bv cs.toList (fun v hv => by
    obtain ⟨i, hi, rfl⟩ := List.getElem_of_mem hv
    have hi' : i < 32 := by simpa [hsz] using hi
    have hE := hel i hi'
    obtain ⟨y, hy⟩ : ∃ y, xs[i]? = some y := ⟨_, List.getElem?_eq_getElem (by omega)⟩
    rw [hy] at hE
    obtain ⟨z, e1, _, hw⟩ := DataW.trod_int he hE
    refine ⟨UInt8.ofNat z.toNat, ?_⟩
    rw [byte_of_wf hw] at e1
    have h0 : ((cs.toList.drop (i * 1)).take 1)[0]? = some (bv (UInt8.ofNat z.toNat)) := by rw [e1]; rfl
    have h1 : cs.toList[i]? = some (bv (UInt8.ofNat z.toNat)) := by simpa using h0
    rw [List.getElem?_eq_getElem hi] at h1
    exact Option.some.inj h1)
  refine ⟨b, ?_, ?_⟩
  · have := congrArg List.length hb
    simp [hsz] at this; omega
  · rw [arr, ← hb]
end Go.Proofs.YtpbahoapjkmcjaaDoor
