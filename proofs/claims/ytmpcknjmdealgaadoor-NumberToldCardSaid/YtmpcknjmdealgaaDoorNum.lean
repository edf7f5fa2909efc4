/-
  Digits and what they count; a ticket's text, and what a text reads as. No program is in sight but for the names of bytes.
-/
import Derived.Test.YtmpcknjmdealgaaDoorValue
import Derived.Test.YtmpcknjmdealgaaDoorPadded
namespace Go.Proofs.YtmpcknjmdealgaaDoor
open Go.RowKit Go.Sha Go.Calm
def dn (c : UInt8) : Nat := (c - 48).toNat
theorem dval_dn (c : UInt8) : dval c = (dn c : Int) := by
  unfold dval dn B8
  rw [UInt8.toNat_sub]
  have := c.toNat_lt
  simp only [show (48 : UInt8).toNat = 48 from rfl]
  omega
theorem dn_lt (c : UInt8) : dn c < 256 := (c - 48).toNat_lt
theorem isDig_iff (c : UInt8) : isDig c = true ↔ 48 ≤ c.toNat ∧ c.toNat ≤ 57 := by
  unfold isDig B8
  simp only [Bool.and_eq_true, decide_eq_true_eq]
  omega
theorem dn_dig {c : UInt8} (h : isDig c = true) : dn c = c.toNat - 48 ∧ dn c < 10 := by
  rw [isDig_iff] at h
  unfold dn
  rw [UInt8.toNat_sub]
  have := c.toNat_lt
  simp only [show (48 : UInt8).toNat = 48 from rfl]
  omega
/-- What digits count, on from v. -/
def valF (v : Nat) (l : List UInt8) : Nat := l.foldl (fun v c => 10 * v + dn c) v
def valN (l : List UInt8) : Nat := valF 0 l
theorem valF_eq : ∀ (l : List UInt8) (v : Nat), valF v l = v * 10 ^ l.length + valN l
  | [], v => by simp [valF, valN]
  | c :: l, v => by
    show valF (10 * v + dn c) l = v * 10 ^ (l.length + 1) + valF (10 * 0 + dn c) l
    rw [valF_eq l, valF_eq l (10 * 0 + dn c), Nat.pow_succ, Nat.add_mul, Nat.mul_zero, Nat.zero_add, Nat.mul_comm 10 v, Nat.mul_assoc, Nat.mul_comm 10 (10 ^ l.length)]
    omega
theorem valN_append (a b : List UInt8) : valN (a ++ b) = valN a * 10 ^ b.length + valN b := by
  show valF 0 (a ++ b) = _
  rw [valF, List.foldl_append]
  exact valF_eq b _
theorem valN_snoc (a : List UInt8) (c : UInt8) : valN (a ++ [c]) = 10 * valN a + dn c := by
  rw [valN_append]; simp [valN, valF]; omega
theorem valN_lt : ∀ (l : List UInt8), l.all isDig = true → valN l < 10 ^ l.length
  | [], _ => by simp [valN, valF]
  | c :: l, h => by
    simp only [List.all_cons, Bool.and_eq_true] at h
    have h1 := (dn_dig h.1).2
    have h2 := valN_lt l h.2
    have e : valN (c :: l) = dn c * 10 ^ l.length + valN l := by
      show valF (10 * 0 + dn c) l = _
      rw [valF_eq]; simp
    rw [e, List.length_cons, Nat.pow_succ]
    have : dn c * 10 ^ l.length ≤ 9 * 10 ^ l.length := Nat.mul_le_mul_right _ (by omega)
    omega
theorem accW_gen : ∀ (l : List UInt8) (v : Nat), l.all isDig = true → (v + 1) * 10 ^ l.length ≤ 18446744073709551616 →
    l.foldl (fun v c => IntKind.u64.wrap (IntKind.u64.wrap (10 * v) + dval c)) (v : Int) = ((valF v l : Nat) : Int)
  | [], v, _, _ => rfl
  | c :: l, v, h, hb => by
    simp only [List.all_cons, Bool.and_eq_true] at h
    have h1 := (dn_dig h.1).2
    have hp : 1 ≤ 10 ^ l.length := Nat.one_le_pow _ _ (by decide)
    have hb2 : (10 * v + dn c + 1) * 10 ^ l.length ≤ 18446744073709551616 := by
      refine Nat.le_trans ?_ hb
      rw [List.length_cons, Nat.pow_succ, Nat.mul_comm (10 ^ l.length) 10, ← Nat.mul_assoc]
      exact Nat.mul_le_mul_right _ (by omega)
    have hb3 : 10 * v + dn c + 1 ≤ 18446744073709551616 := Nat.le_trans (Nat.le_mul_of_pos_right _ hp) hb2
    have e : IntKind.u64.wrap (IntKind.u64.wrap (10 * (v : Int)) + dval c) = ((10 * v + dn c : Nat) : Int) := by
      rw [dval_dn, IntKind.wrap_u64, IntKind.wrap_u64]; omega
    rw [List.foldl_cons, e, accW_gen l _ h.2 hb2]
    rfl
theorem accW_eq {l : List UInt8} (h : l.all isDig = true) (hl : l.length ≤ 19) : accW l = (valN l : Int) :=
  accW_gen l 0 h (by
    have : 10 ^ l.length ≤ 10 ^ 19 := Nat.pow_le_pow_right (by decide) hl
    omega)
/-- What is left, divided by 7. -/
def leftN (l : List UInt8) : Nat := l.foldl (fun v c => (10 * v + dn c) % 7) 0
theorem leftN_eq (l : List UInt8) : leftN l = valN l % 7 := by
  suffices H : ∀ (l : List UInt8) (a b : Nat), a % 7 = b % 7 → a < 7 → l.foldl (fun v c => (10 * v + dn c) % 7) a = valF b l % 7 from H l 0 0 rfl (by decide)
  intro l
  induction l with
  | nil => intro a b h ha; show a = b % 7; omega
  | cons c l ih =>
    intro a b h ha
    show l.foldl _ ((10 * a + dn c) % 7) = valF (10 * b + dn c) l % 7
    exact ih _ _ (by omega) (by omega)
theorem digs_succ (u n : Nat) : digs u (n + 1) = Lib.dg u n :: digs u n := by
  unfold digs
  rw [List.range_succ_eq_map, List.map_cons, List.map_map]
  congr 1
  apply List.map_congr_left
  intro t ht
  simp only [List.mem_range] at ht
  show Lib.dg u (n + 1 - 1 - (t + 1)) = _
  congr 1; omega
theorem dg_toNat (u j : Nat) : (Lib.dg u j).toNat = 48 + u / 10 ^ j % 10 := by
  unfold Lib.dg
  rw [UInt8.toNat_ofNat']
  omega
theorem isDig_dg (u j : Nat) : isDig (Lib.dg u j) = true := by rw [isDig_iff, dg_toNat]; omega
theorem dn_dg (u j : Nat) : dn (Lib.dg u j) = u / 10 ^ j % 10 := by rw [(dn_dig (isDig_dg u j)).1, dg_toNat]; omega
theorem digs_all (u n : Nat) : (digs u n).all isDig = true := by
  rw [List.all_eq_true]
  intro x hx
  obtain ⟨t, _, rfl⟩ := List.mem_map.1 hx
  exact isDig_dg _ _
theorem valN_digs (u : Nat) : ∀ n, valN (digs u n) = u % 10 ^ n
  | 0 => by simp [digs, valN, valF, Nat.mod_one]
  | n + 1 => by
    rw [digs_succ]
    show valF (10 * 0 + dn (Lib.dg u n)) (digs u n) = _
    rw [valF_eq, digs_length, valN_digs u n, dn_dg, Nat.pow_succ, Nat.mod_mul, Nat.mul_zero, Nat.zero_add, Nat.mul_comm (u / 10 ^ n % 10)]
    omega
/-- Digits are the digits of what they count. -/
theorem digs_valN : ∀ (l : List UInt8), l.all isDig = true → digs (valN l) l.length = l
  | [], _ => rfl
  | c :: l, h => by
    simp only [List.all_cons, Bool.and_eq_true] at h
    have h1 := dn_dig h.1
    have h2 := valN_lt l h.2
    have e : valN (c :: l) = dn c * 10 ^ l.length + valN l := by
      show valF (10 * 0 + dn c) l = _
      rw [valF_eq]; simp
    have hp : 0 < 10 ^ l.length := Nat.pow_pos (by decide)
    rw [List.length_cons, digs_succ]
    have ed : Lib.dg (valN (c :: l)) l.length = c := by
      apply UInt8.toNat_inj.1
      rw [dg_toNat, e, Nat.mul_comm, Nat.mul_add_div hp, Nat.div_eq_of_lt h2]
      have := (isDig_iff c).1 h.1
      omega
    have et : digs (valN (c :: l)) l.length = digs (valN l) l.length := by
      have : ∀ t, t < l.length → Lib.dg (valN (c :: l)) t = Lib.dg (valN l) t := fun t ht => by
        apply UInt8.toNat_inj.1
        rw [dg_toNat, dg_toNat, e]
        obtain ⟨k, hk⟩ : ∃ k, l.length = t + 1 + k := ⟨l.length - (t + 1), by omega⟩
        rw [hk, Nat.pow_add, Nat.pow_succ]
        have : (dn c * (10 ^ t * 10 * 10 ^ k) + valN l) / 10 ^ t = dn c * (10 * 10 ^ k) + valN l / 10 ^ t := by
          rw [show dn c * (10 ^ t * 10 * 10 ^ k) = 10 ^ t * (dn c * (10 * 10 ^ k)) by ac_rfl, Nat.mul_add_div (Nat.pow_pos (by decide))]
        rw [this]
        have : (dn c * (10 * 10 ^ k)) % 10 = 0 := by rw [show dn c * (10 * 10 ^ k) = 10 * (dn c * 10 ^ k) by ac_rfl]; exact Nat.mul_mod_right _ _
        omega
      unfold digs
      apply List.map_congr_left
      intro t ht
      simp only [List.mem_range] at ht
      exact this _ (by omega)
    rw [ed, et, digs_valN l h.2]
end Go.Proofs.YtmpcknjmdealgaaDoor
