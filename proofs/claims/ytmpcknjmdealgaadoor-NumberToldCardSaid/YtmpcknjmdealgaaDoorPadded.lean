/-
  padded: a number's digits with noughts ahead, as many as are asked for; by the program and by the document.
-/
import Derived.Test.YtmpcknjmdealgaaDoorFmt
namespace Go.Proofs.YtmpcknjmdealgaaDoor
open Go.RowKit Go.Sha Go.Calm Go.Sort
/-- The last n digits of u. -/
def digs (u n : Nat) : List UInt8 := (List.range n).map fun t => Lib.dg u (n - 1 - t)
theorem digs_length (u n : Nat) : (digs u n).length = n := by simp [digs]
theorem nDigits_le : ∀ (n u : Nat), 1 ≤ n → u < 10 ^ n → Lib.nDigits u ≤ n
  | 0, _, h, _ => by omega
  | 1, u, _, h => by rw [Lib.nDigits_small (by simpa using h)]; exact Nat.le_refl _
  | n + 2, u, _, h => by
    by_cases hu : u < 10
    · rw [Lib.nDigits_small hu]; omega
    · rw [Lib.nDigits_big hu]
      have := nDigits_le (n + 1) (u / 10) (by omega) (by rw [Nat.pow_succ] at h; omega)
      omega
theorem pad_eq (u n : Nat) (hn : 1 ≤ n) (hu : u < 10 ^ n) : List.replicate (n - Lib.nDigits u) 48 ++ Lib.decDigits u = digs u n := by
  have hle := nDigits_le n u hn hu
  have hlt := Lib.lt_pow_nDigits u
  apply List.ext_getElem
  · rw [List.length_append, List.length_replicate, Lib.decDigits_length, digs_length]; omega
  · intro i h1 h2
    rw [digs_length] at h2
    by_cases hi : i < n - Lib.nDigits u
    · rw [List.getElem_append_left (by simpa using hi)]
      simp only [List.getElem_replicate, digs, List.getElem_map, List.getElem_range, Lib.dg]
      have : u / 10 ^ (n - 1 - i) = 0 := Nat.div_eq_of_lt (Nat.lt_of_lt_of_le hlt (Nat.pow_le_pow_right (by decide) (by omega)))
      rw [this]; rfl
    · rw [List.getElem_append_right (by simpa using hi)]
      simp only [Lib.decDigits_eq u, List.getElem_map, List.getElem_range, digs, List.length_replicate]
      congr 1; omega
theorem str_cons (x : UInt8) (s : ByteArray) (l : List UInt8) (h : s = ⟨l.toArray⟩) : (⟨#[x]⟩ : ByteArray) ++ s = ⟨(x :: l).toArray⟩ := by
  subst h
  apply ByteArray.ext
  simp

set_option maxRecDepth 100000 in
set_option maxHeartbeats 1000000 in
theorem padded_any (u n : Nat) (hn : 1 ≤ n) (hn2 : n ≤ 19) (hu : u < 10 ^ n) (hu64 : u < 18446744073709551616) (w : World) (ht : HasT w) :
    Calls Tryd.prog 16 #[.int .u64 u, .int .i64 n] w fun e w' => e = .returned (.string ⟨(digs u n).toArray⟩) ∧ Below w.heap.size w w' := by
  have HT := Calm.hid ht
  have HLE := Calm.hid (nDigits_le n u hn hu)
  have HP := Calm.hid (pad_eq u n hn hu)
  clear ht
  go_enter Tryd.func16, Tryd.ntmps16
  go_wp2_with fail
  refine (fmt2_any u hu64 w HT.out).mono ?_
  rintro e w2 ⟨rfl, hb⟩
  have HB := Calm.hid hb
  clear hb
  obtain ⟨s0, hs0⟩ : ∃ s0 : ByteArray, s0 = ⟨(Lib.decDigits u).toArray⟩ := ⟨_, rfl⟩
  have HS0 := Calm.hid hs0
  rw [← hs0]
  clear hs0
  go_wp2
  go_loopw [5] (fun v wr => ∃ (j : Nat) (s : ByteArray), v = .string s ∧ s = ⟨(List.replicate j 48 ++ Lib.decDigits u).toArray⟩ ∧ j + Lib.nDigits u ≤ n ∧ Below w.heap.size w wr) (fun v _ => match v with | .string s => n - s.size | _ => 0)
  case atStart => exact ⟨0, s0, rfl, by rw [HS0.out]; rfl, by have := HLE.out; omega, HB.out⟩
  case round =>
    obtain ⟨j, s, rfl, hs, hj, hb⟩ := hrel
    clear HB
    have hsz : s.size = j + Lib.nDigits u := by rw [hs]; show (List.replicate j 48 ++ Lib.decDigits u).toArray.size = _; rw [List.size_toArray, List.length_append, List.length_replicate, Lib.decDigits_length]
    have HS := Calm.hid hs
    have HB := Calm.hid hb
    clear hs hb
    by_cases hlt : j + Lib.nDigits u < n
    · have hd : decide (((j : Int) + (Lib.nDigits u : Int)) < (n : Int)) = true := by simp; omega
      go_wp2
      refine ⟨⟨j + 1, _, rfl, (str_cons 48 s _ HS.out).trans (by rw [List.replicate_succ, List.cons_append]), by omega, HB.out⟩, ?_⟩
      show n - (({ data := #[48] } : ByteArray) ++ s).size < n - s.size
      rw [ByteArray.size_append, hsz]
      show n - (1 + (j + Lib.nDigits u)) < n - (j + Lib.nDigits u)
      omega
    · have hd : decide (((j : Int) + (Lib.nDigits u : Int)) < (n : Int)) = false := by simp; omega
      go_wp2
      go_ret
      have HJ : Hid (j = n - Lib.nDigits u) := show j = n - Lib.nDigits u by omega
      have HE : Hid (s = ⟨(digs u n).toArray⟩) := by show s = _; rw [HS.out, HJ.out, HP.out]
      exact ⟨by rw [← HE.out]; rfl, HB.out⟩
end Go.Proofs.YtmpcknjmdealgaaDoor
