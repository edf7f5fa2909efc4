/-
  may, May, the document's padded and left.
-/
import Derived.Test.YtmpcknjmdealgaaDoorNum
namespace Go.Proofs.YtmpcknjmdealgaaDoor
open Go.RowKit Go.Sha Go.Calm
/-- May a ticket be? -/
def mayN (c s : Nat) : Bool := decide (c < 8) && (decide (1 ≤ s) && decide (s ≤ 9999999999))
theorem may_any (c s : Nat) (w : World) : Calls Tryd.prog 15 #[.int .u64 c, .int .u64 s] w fun e w' => e = .returned (.bool (mayN c s)) ∧ w' = w := by
  have h1 : decide ((c : Int) < 8) = decide (c < 8) := by apply decide_eq_decide.2; omega
  have h2 : decide (1 ≤ (s : Int)) = decide (1 ≤ s) := by apply decide_eq_decide.2; omega
  have h3 : decide ((s : Int) ≤ 9999999999) = decide (s ≤ 9999999999) := by apply decide_eq_decide.2; omega
  unfold mayN
  obtain ⟨a, ha⟩ : ∃ a, a = decide (c < 8) := ⟨_, rfl⟩
  obtain ⟨b, hb⟩ : ∃ b, b = decide (1 ≤ s) := ⟨_, rfl⟩
  obtain ⟨d, hd⟩ : ∃ d, d = decide (s ≤ 9999999999) := ⟨_, rfl⟩
  rw [← ha] at h1 ⊢
  rw [← hb] at h2 ⊢
  rw [← hd] at h3 ⊢
  clear ha hb hd
  cases a <;> cases b <;> cases d
  all_goals
    go_enter Tryd.func15, Tryd.ntmps15
    go_wp2
    go_ret
    exact ⟨rfl, rfl⟩
theorem May_any (c s : Nat) (w : World) : Calls Tryd.prog 14 #[.agg #[.int .u8 c, .int .u64 s]] w fun e w' => e = .returned (.bool (mayN c s)) ∧ Below w.heap.size w w' := by
  have h1 : decide ((c : Int) < 8) = decide (c < 8) := by apply decide_eq_decide.2; omega
  have h2 : decide (0 < s) = decide (1 ≤ s) := rfl
  have h3 : decide ((s : Int) ≤ 9999999999) = decide (s ≤ 9999999999) := by apply decide_eq_decide.2; omega
  unfold mayN
  obtain ⟨a, ha⟩ : ∃ a, a = decide (c < 8) := ⟨_, rfl⟩
  obtain ⟨b, hb⟩ : ∃ b, b = decide (1 ≤ s) := ⟨_, rfl⟩
  obtain ⟨d, hd⟩ : ∃ d, d = decide (s ≤ 9999999999) := ⟨_, rfl⟩
  rw [← ha] at h1 ⊢
  rw [← hb] at h2 ⊢
  rw [← hd] at h3 ⊢
  clear ha hb hd
  cases a <;> cases b <;> cases d
  all_goals
    go_enter Tryd.func14, Tryd.ntmps14
    go_wp2
    go_ret
    exact ⟨rfl, (Below.refl _ _).alloc (Nat.le_refl _) _⟩

theorem digit_piece (k : Nat) (hk : k < 10) (w : World) : (Instr.slice 9 (.string ⟨#[48, 49, 50, 51, 52, 53, 54, 55, 56, 57]⟩) (some (.int .u64 (k : Int))) (some (.int .u64 ((k : Int) + 1))) none).run Tryd.prog w = .ok (.string ⟨#[UInt8.ofNat (48 + k)]⟩) w := by
  rw [run_slice_string w 9 _ .u64 .u64 _ _ Tryd.underlying9 (by omega) (by omega) (by show (k : Int) + 1 ≤ ((10 : Nat) : Int); omega), show ((k : Int)).toNat = k by omega, show ((k : Int) + 1).toNat = k + 1 by omega]
  have : ∀ k, k < 10 → (⟨#[48, 49, 50, 51, 52, 53, 54, 55, 56, 57]⟩ : ByteArray).extract k (k + 1) = ⟨#[UInt8.ofNat (48 + k)]⟩ := by decide +kernel
  rw [this k hk]

set_option maxRecDepth 100000 in
set_option maxHeartbeats 1000000 in
theorem padR_any (u n : Nat) (hn : n ≤ 19) (hu : u < 18446744073709551616) (w : World) : Calls Tryd.prog 19 #[.int .u64 u, .int .i64 n] w fun e w' => e = .returned (.string ⟨(digs u n).toArray⟩) ∧ w' = w := by
  go_enter Tryd.func19, Tryd.ntmps19
  go_wp2
  go_loopw [0, 5, 6] (fun v s t wr => ∃ (i : Nat) (b : ByteArray), i ≤ n ∧ t = .int .i64 i ∧ v = .int .u64 ((u / 10 ^ i : Nat) : Int) ∧ s = .string b ∧ b = ⟨(digs u i).toArray⟩ ∧ wr = w) (fun _ _ t _ => n - (intOf t).toNat)
  case atStart => exact ⟨0, _, by omega, rfl, by simp, rfl, rfl, rfl⟩
  case round =>
    obtain ⟨i, b, hi, rfl, rfl, rfl, hb, rfl⟩ := hrel
    by_cases hlt : i < n
    · obtain ⟨q, hq⟩ : ∃ q, q = u / 10 ^ i := ⟨_, rfl⟩
      obtain ⟨k, hk⟩ : ∃ k, k = q % 10 := ⟨_, rfl⟩
      obtain ⟨q', hq'⟩ : ∃ q', q' = q / 10 := ⟨_, rfl⟩
      have hmod : (q : Int) % 10 = (k : Int) := by omega
      have hdiv : (q : Int) / 10 = (q' : Int) := by omega
      have hk10 : k < 10 := by omega
      obtain ⟨y, hy⟩ : ∃ y, y = UInt8.ofNat (48 + k) := ⟨_, rfl⟩
      have hsl := fun w => digit_piece k hk10 w
      rw [← hy] at hsl
      have HQ' : Hid (q' = u / 10 ^ (i + 1)) := by show q' = u / 10 ^ (i + 1); rw [hq', hq, Nat.pow_succ, Nat.div_div_eq_div_mul]
      have HDG : Hid (digs u (i + 1) = y :: digs u i) := by show digs u (i + 1) = _; rw [digs_succ, Lib.dg, hy, hk, hq]
      have hsz : b.size = i := by rw [hb]; show (digs u i).toArray.size = i; rw [List.size_toArray, digs_length]
      have hqu : q' < 18446744073709551616 := by
        have h1 : q ≤ u := by rw [hq]; exact Nat.div_le_self _ _
        omega
      have hwq : IntKind.u64.wrap (q' : Int) = (q' : Int) := by rw [IntKind.wrap_u64]; omega
      have HB := Calm.hid hb
      rw [← hq]
      clear hq hk hq' hb hy
      go_wp2
      refine ⟨⟨i + 1, _, by omega, by simp, by rw [← HQ'.out], rfl, (str_cons y b _ HB.out).trans (by rw [HDG.out]), trivial⟩, ?_⟩
      simp [intOf]; omega
    · have HI : Hid (i = n) := show i = n by omega
      have HB := Calm.hid hb
      clear hb
      go_wp2
      go_ret
      exact ⟨by rw [← HI.out]; exact congrArg (fun x => Ending.returned (Value.string x)) HB.out, rfl⟩

def lefts (l : List UInt8) (i : Nat) : Nat := leftN (l.take i)
theorem lefts_succ (l : List UInt8) {i : Nat} (hi : i < l.length) : lefts l (i + 1) = (10 * lefts l i + dn (l.getD i 0)) % 7 := by
  unfold lefts leftN
  rw [List.take_add_one, show l[i]? = some (l.getD i 0) by simp [hi]]
  simp
theorem leftN_lt (l : List UInt8) : leftN l < 7 := by rw [leftN_eq]; omega
set_option maxRecDepth 100000 in
set_option maxHeartbeats 1000000 in
theorem left_any (l : List UInt8) (hl : l.length ≤ 4611686018427387904) (w : World) : Calls Tryd.prog 20 #[.string ⟨l.toArray⟩] w fun e w' => e = .returned (.int .i64 (leftN l)) ∧ w' = w := by
  obtain ⟨s, hs⟩ : ∃ s : ByteArray, s = ⟨l.toArray⟩ := ⟨_, rfl⟩
  have hsz : s.size = l.length := by rw [hs]; simp [ByteArray.size]
  rw [← hs]
  have HS := Calm.hid hs
  clear hs
  go_enter Tryd.func20, Tryd.ntmps20
  go_wp2
  go_loopw [3, 4] (fun v t wr => ∃ (i : Nat), i ≤ l.length ∧ t = .int .i64 i ∧ v = .int .i64 (lefts l i) ∧ wr = w) (fun _ t _ => l.length - (intOf t).toNat)
  case atStart => exact ⟨0, by omega, rfl, rfl, rfl⟩
  case round =>
    obtain ⟨i, hi, rfl, rfl, rfl⟩ := hrel
    by_cases hlt : i < l.length
    · obtain ⟨x, hx⟩ : ∃ x, x = l.getD i 0 := ⟨_, rfl⟩
      have hxi := fun w => index_str s l HS.out i hlt w
      rw [← hx] at hxi
      obtain ⟨d, hd⟩ : ∃ d, d = dn x := ⟨_, rfl⟩
      have hdv : (B8 x - 48) % 256 = (d : Int) := by rw [hd, ← dval_dn]; rfl
      have hd256 : d < 256 := by rw [hd]; exact dn_lt x
      obtain ⟨q, hq⟩ : ∃ q, q = lefts l i := ⟨_, rfl⟩
      have hq7 : q < 7 := by rw [hq]; exact leftN_lt _
      have HN : Hid (lefts l (i + 1) = (10 * q + d) % 7) := by show lefts l (i + 1) = _; rw [lefts_succ l hlt, ← hx, ← hd, ← hq]
      rw [← hq]
      clear hx hd hq
      go_wp2
      refine ⟨⟨i + 1, by omega, by simp, by rw [HN.out]; simp, trivial⟩, ?_⟩
      simp [intOf]; omega
    · have HI : Hid (i = l.length) := show i = l.length by omega
      have HE : Hid (lefts l i = leftN l) := by show lefts l i = leftN l; rw [HI.out, lefts, List.take_length]
      rw [HE.out]
      go_wp2
      go_ret
      exact ⟨rfl, rfl⟩
end Go.Proofs.YtmpcknjmdealgaaDoor
