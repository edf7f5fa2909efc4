/-
  The block of a key, each byte xored: what the inner function of mac.New makes.
-/
import Derived.Test.YtpbahoapjkmcjaaDoorRefText
import Derived.Deep.OwnRows
namespace Go.Proofs.YtpbahoapjkmcjaaDoor
open Go.RowKit Go.Sha Go.Calm

def pad64 (key : List UInt8) : List UInt8 := key ++ List.replicate (64 - key.length) 0
def xorB (x : UInt8) (l : List UInt8) : List UInt8 := l.map (· ^^^ x)
def short (key : List UInt8) : List UInt8 := if key.length > 64 then digest key else key
def macD (key b : List UInt8) : List UInt8 := digest (xorB 92 (pad64 (short key)) ++ digest (xorB 54 (pad64 (short key)) ++ b))
theorem pad64_length {key : List UInt8} (h : key.length ≤ 64) : (pad64 key).length = 64 := by simp [pad64]; omega
theorem xorB_length (x : UInt8) (l : List UInt8) : (xorB x l).length = l.length := by simp [xorB]
theorem short_length (key : List UInt8) : (short key).length ≤ 64 := by
  unfold short
  split
  · rw [digest_length]; omega
  · omega
attribute [local go_sem] u8_bits_xor

theorem made_one (z : Value) (n : Nat) : (madeCells #[z] n).toList = List.replicate n z := by
  apply List.ext_getElem
  · simp [madeCells]
  · intro i h1 h2
    simp [madeCells, Nat.mod_one]
/-- The round: the first i bytes are xored. -/
structure K1 (w : World) (key : List UInt8) (x : UInt8) (i : Nat) (wr : World) : Prop where
  row : Rw wr w.heap.size ((xorB x ((pad64 key).take i) ++ (pad64 key).drop i).map bv) 5
  turns : Turns (fun _ => False) w wr
theorem K1.at_ {w wr : World} {key : List UInt8} {x : UInt8} {i : Nat} (hk : key.length ≤ 64) (h : K1 w key x i wr) (hi : i < 64) : wr.cell? ⟨w.heap.size, i, none⟩ = some (bv ((pad64 key).getD i 0)) := by
  have hl := pad64_length hk
  refine h.row.cell ?_
  rw [List.getElem?_map, List.getElem?_append_right (by rw [xorB_length, List.length_take]; omega), xorB_length, List.length_take, List.getElem?_drop]
  have : i + (i - min i (pad64 key).length) = i := by omega
  rw [this]
  simp [show i < (pad64 key).length by omega]
theorem K1.step {w wr : World} {key : List UInt8} {x : UInt8} {i : Nat} (hk : key.length ≤ 64) (h : K1 w key x i wr) (hi : i < 64) : K1 w key x (i + 1) (wr.setCell ⟨w.heap.size, i, none⟩ (bv ((pad64 key).getD i 0 ^^^ x))) := by
  have hl := pad64_length hk
  refine ⟨?_, h.turns.setCell (by simp) _⟩
  have := h.row.set i (bv ((pad64 key).getD i 0 ^^^ x))
  rw [← List.map_set, List.set_append_right _ _ (by rw [xorB_length, List.length_take]; omega), xorB_length, List.length_take, show i - min i (pad64 key).length = 0 by omega, List.drop_eq_getElem_cons (by omega), List.set_cons_zero] at this
  have e : xorB x ((pad64 key).take (i + 1)) = xorB x ((pad64 key).take i) ++ [(pad64 key).getD i 0 ^^^ x] := by
    rw [List.take_add_one, show (pad64 key)[i]? = some ((pad64 key).getD i 0) by simp [show i < (pad64 key).length by omega]]
    simp [xorB]
  rw [e, List.append_assoc]
  exact this

set_option maxRecDepth 100000 in
set_option maxHeartbeats 1000000 in
theorem keyBlock_any (x : UInt8) (tb : Nat) (key : List UInt8) (hk : key.length ≤ 64) (p : Option Addr) (c : Nat) (w : World) (hc : w.cell? ⟨tb, 0, none⟩ = some (.slice p key.length c)) (hb : BytesOf w p key.length c key) :
    Calls Tryd.prog 31 #[.int .u8 (B8 x), .pointer (some ⟨tb, 0, none⟩)] w fun en w' => en = .returned (.slice (some ⟨w.heap.size, 0, none⟩) 64 64) ∧ Rw w' w.heap.size ((xorB x (pad64 key)).map bv) 5 ∧ Below w.heap.size w w' := by
  obtain ⟨i0, hi0, hz0, hz1, hz2⟩ := info_parts Tryd.info5
  have HB := Calm.hid hb
  have htb := World.block_lt_of_cell? w _ hc
  obtain ⟨Z, hZ⟩ : ∃ Z, Z = madeCells #[.int .u8 0] 64 := ⟨_, rfl⟩
  have hrz : Rw (w.alloc (.cells Z 5)) w.heap.size ((List.replicate 64 (0 : UInt8)).map bv) 5 := by
    have := Rw.new w Z 5
    rw [hZ, made_one] at this
    rw [List.map_replicate, hZ]; exact this
  have hcA : (w.alloc (.cells Z 5)).cell? ⟨tb, 0, none⟩ = some (.slice p key.length c) := by
    rw [← hc]; exact (((Turns.refl (fun _ => False) w).alloc _).cell htb (fun h => h))
  have HZ := Calm.hid hZ
  have HRZ := Calm.hid hrz
  clear hb hc hZ hrz
  have hpad : pad64 key = key ++ List.replicate (64 - key.length) 0 := rfl
  have HPAD := Calm.hid hpad
  clear hpad
  have hfin : Hid (∀ w2, K1 w key x 0 w2 → (∀ wr, K1 w key x 64 wr → Rw wr w.heap.size ((xorB x (pad64 key)).map bv) 5)) := fun w2 _ wr h => by
    have hl := pad64_length hk
    have := h.row
    rwa [List.take_of_length_le (by omega), List.drop_of_length_le (by omega), List.append_nil] at this
  by_cases h0 : key.length = 0
  · have HK0 : Hid (key = []) := List.eq_nil_of_length_eq_zero h0
    have hs1 : K1 w key x 0 (w.alloc (.cells Z 5)) := ⟨by rw [HPAD.out, HK0.out]; simpa [xorB] using HRZ.out, (Turns.refl _ _).alloc _⟩
    have HS1 := Calm.hid hs1
    clear hs1
    go_enter Tryd.func31, Tryd.ntmps31
    go_wp2_with (first
      | (refine wpList_make_row _ rfl (.const (.int .i64 64)) (.const (.int .i64 64)) 22 rfl 5 i0 (.int .u8 0) Tryd.underlying22 hi0 hz0 hz1 rfl .i64 .i64 64 rfl rfl (by rw [hz2]; decide) (by decide) ?_; rw [← HZ.out])
      | refine Go.wpList_copy_nothing rfl (.tmp 7) (.tmp 8) 22 22 rfl 5 Tryd.underlying22 (by kernel_rfl) (some ⟨w.heap.size, 0, none⟩) p 64 64 0 c rfl rfl rfl ?_)
    go_loopw [12] (fun t wr => ∃ i : Nat, i ≤ 64 ∧ t = .int .i64 i ∧ K1 w key x i wr) (fun t _ => 64 - (intOf t).toNat)
    case atStart => exact ⟨0, by omega, rfl, HS1.out⟩
    case round =>
      obtain ⟨i, hi, rfl, hL⟩ := hrel
      by_cases hlt : i < 64
      · have c0 := hL.at_ hk hlt
        have f0 := hL.row.free i
        obtain ⟨y, hy⟩ : ∃ y, y = (pad64 key).getD i 0 := ⟨_, rfl⟩
        rw [← hy] at c0
        have HY := Calm.hid hy
        have HL := Calm.hid hL
        clear hy hL HS1
        go_wp2
        go_roundw
        case rel => exact ⟨i + 1, by omega, by go_num, by rw [HY.out]; exact HL.out.step hk hlt⟩
        case measure => simp [intOf]; omega
      · have H64 : Hid (i = 64) := show i = 64 by omega
        have hL64 : K1 w key x 64 wr := by rw [← H64.out]; exact hL
        have HL := Calm.hid hL64
        clear hL hL64
        go_wp2
        go_ret
        exact ⟨rfl, hfin.out _ HS1.out _ HL.out, HL.out.turns.below (fun _ _ h => h)⟩
  · obtain ⟨bb, off, rfl⟩ : ∃ bb off, p = some ⟨bb, off, none⟩ := by
      cases p with
      | none => exact absurd (HB.out.nil rfl).1 h0
      | some ad => obtain ⟨bb, off, rfl⟩ := HB.out.plain (by omega); exact ⟨bb, off, rfl⟩
    go_enter Tryd.func31, Tryd.ntmps31
    go_wp2_with (first
      | (refine wpList_make_row _ rfl (.const (.int .i64 64)) (.const (.int .i64 64)) 22 rfl 5 i0 (.int .u8 0) Tryd.underlying22 hi0 hz0 hz1 rfl .i64 .i64 64 rfl rfl (by rw [hz2]; decide) (by decide) ?_; rw [← HZ.out])
      | (refine wpList_copy_rw rfl (.tmp 7) (.tmp 8) 22 22 rfl 5 Tryd.underlying22 (by kernel_rfl) w.heap.size 0 64 64 ⟨bb, off, none⟩ key.length c rfl rfl _ 5 HRZ.out (key.map bv) (by rw [List.length_map]; exact (Nat.min_eq_left hk).symm) ((HB.out.alloc _).news _ rfl) (by simp; omega) (BytesOf.one _) ((pad64 key).map bv) (by rw [HPAD.out, List.map_append, List.map_replicate, List.map_replicate, List.take_zero, List.nil_append, Nat.zero_add, List.length_map, List.drop_replicate]) ?_
         intro w2 hr2 ht2
         refine wpList_nil ?_))
    have hs1 : K1 w key x 0 w2 := ⟨by simpa [xorB] using hr2, ((Turns.refl _ _).alloc _).step ht2 (fun k hk e => by omega)⟩
    have HS1 := Calm.hid hs1
    clear hs1 hr2 ht2
    go_loopw [12] (fun t wr => ∃ i : Nat, i ≤ 64 ∧ t = .int .i64 i ∧ K1 w key x i wr) (fun t _ => 64 - (intOf t).toNat)
    case atStart => exact ⟨0, by omega, rfl, HS1.out⟩
    case round =>
      obtain ⟨i, hi, rfl, hL⟩ := hrel
      by_cases hlt : i < 64
      · have c0 := hL.at_ hk hlt
        have f0 := hL.row.free i
        obtain ⟨y, hy⟩ : ∃ y, y = (pad64 key).getD i 0 := ⟨_, rfl⟩
        rw [← hy] at c0
        have HY := Calm.hid hy
        have HL := Calm.hid hL
        clear hy hL HS1
        go_wp2
        go_roundw
        case rel => exact ⟨i + 1, by omega, by go_num, by rw [HY.out]; exact HL.out.step hk hlt⟩
        case measure => simp [intOf]; omega
      · have H64 : Hid (i = 64) := show i = 64 by omega
        have hL64 : K1 w key x 64 wr := by rw [← H64.out]; exact hL
        have HL := Calm.hid hL64
        clear hL hL64
        go_wp2
        go_ret
        exact ⟨rfl, hfin.out _ HS1.out _ HL.out, HL.out.turns.below (fun _ _ h => h)⟩
end Go.Proofs.YtpbahoapjkmcjaaDoor
