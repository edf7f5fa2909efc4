/-
  SHA-256 in plain Lean: what both texts compute. No program is in sight.
-/
import Derived.Test.YtpbahoapjkmcjaaDoorWords
namespace Go.Sha
def Ks : List UInt32 := [
  0x428a2f98, 0x71374491, 0xb5c0fbcf, 0xe9b5dba5, 0x3956c25b, 0x59f111f1, 0x923f82a4, 0xab1c5ed5,
  0xd807aa98, 0x12835b01, 0x243185be, 0x550c7dc3, 0x72be5d74, 0x80deb1fe, 0x9bdc06a7, 0xc19bf174,
  0xe49b69c1, 0xefbe4786, 0x0fc19dc6, 0x240ca1cc, 0x2de92c6f, 0x4a7484aa, 0x5cb0a9dc, 0x76f988da,
  0x983e5152, 0xa831c66d, 0xb00327c8, 0xbf597fc7, 0xc6e00bf3, 0xd5a79147, 0x06ca6351, 0x14292967,
  0x27b70a85, 0x2e1b2138, 0x4d2c6dfc, 0x53380d13, 0x650a7354, 0x766a0abb, 0x81c2c92e, 0x92722c85,
  0xa2bfe8a1, 0xa81a664b, 0xc24b8b70, 0xc76c51a3, 0xd192e819, 0xd6990624, 0xf40e3585, 0x106aa070,
  0x19a4c116, 0x1e376c08, 0x2748774c, 0x34b0bcb5, 0x391c0cb3, 0x4ed8aa4a, 0x5b9cca4f, 0x682e6ff3,
  0x748f82ee, 0x78a5636f, 0x84c87814, 0x8cc70208, 0x90befffa, 0xa4506ceb, 0xbef9a3f7, 0xc67178f2]
def K (i : Nat) : UInt32 := Ks.getD i 0
def H0 : List UInt32 := [0x6a09e667, 0xbb67ae85, 0x3c6ef372, 0xa54ff53a, 0x510e527f, 0x9b05688c, 0x1f83d9ab, 0x5be0cd19]

/-- A word of four bytes, the highest first. -/
def word (a b c d : UInt8) : UInt32 := .ofNat (((a.toNat * 256 + b.toNat) * 256 + c.toNat) * 256 + d.toNat)
theorem word_toNat (a b c d : UInt8) : (word a b c d).toNat = ((a.toNat * 256 + b.toNat) * 256 + c.toNat) * 256 + d.toNat := by
  have := a.toNat_lt; have := b.toNat_lt; have := c.toNat_lt; have := d.toNat_lt
  unfold word; rw [UInt32.toNat_ofNat']; omega
theorem word_walk (a b c d : UInt8) : bits .or .u32 (bits .or .u32 (bits .or .u32 (B8 a % 4294967296 * 16777216 % 4294967296) (B8 b % 4294967296 * 65536 % 4294967296)) (B8 c % 4294967296 * 256 % 4294967296)) (B8 d % 4294967296) = U (word a b c d) := by
  have h0 := a.toNat_lt; have h1 := b.toNat_lt; have h2 := c.toNat_lt; have h3 := d.toNat_lt
  unfold B8 U
  rw [word_toNat]
  have e0 : ((a.toNat : Int) % 4294967296 * 16777216 % 4294967296) = ((2 ^ 24 * a.toNat : Nat) : Int) := by omega
  have e1 : ((b.toNat : Int) % 4294967296 * 65536 % 4294967296) = ((2 ^ 16 * b.toNat : Nat) : Int) := by omega
  have e2 : ((c.toNat : Int) % 4294967296 * 256 % 4294967296) = ((2 ^ 8 * c.toNat : Nat) : Int) := by omega
  have e3 : ((d.toNat : Int) % 4294967296) = ((d.toNat : Nat) : Int) := by omega
  have o1 : (2 ^ 24 * a.toNat) ||| (2 ^ 16 * b.toNat) = 2 ^ 24 * a.toNat + 2 ^ 16 * b.toNat := by
    rw [Nat.two_pow_add_eq_or_of_lt (by omega)]
  have o2 : (2 ^ 24 * a.toNat + 2 ^ 16 * b.toNat) ||| (2 ^ 8 * c.toNat) = 2 ^ 24 * a.toNat + 2 ^ 16 * b.toNat + 2 ^ 8 * c.toNat := by
    rw [show 2 ^ 24 * a.toNat + 2 ^ 16 * b.toNat = 2 ^ 16 * (2 ^ 8 * a.toNat + b.toNat) by omega]
    exact (Nat.two_pow_add_eq_or_of_lt (i := 16) (by omega) _).symm
  have o3 : (2 ^ 24 * a.toNat + 2 ^ 16 * b.toNat + 2 ^ 8 * c.toNat) ||| d.toNat = 2 ^ 24 * a.toNat + 2 ^ 16 * b.toNat + 2 ^ 8 * c.toNat + d.toNat := by
    rw [show 2 ^ 24 * a.toNat + 2 ^ 16 * b.toNat + 2 ^ 8 * c.toNat = 2 ^ 8 * (2 ^ 16 * a.toNat + 2 ^ 8 * b.toNat + c.toNat) by omega]
    exact (Nat.two_pow_add_eq_or_of_lt (i := 8) (by omega) _).symm
  rw [e0, e1, e2, e3, u32_or_nat _ _ (by omega) (by omega), o1, u32_or_nat _ _ (by omega) (by omega), o2, u32_or_nat _ _ (by omega) (by omega), o3]
  omega
def sig0 (x : UInt32) : UInt32 := rot x 7 ^^^ rot x 18 ^^^ shr x 3
def sig1 (x : UInt32) : UInt32 := rot x 17 ^^^ rot x 19 ^^^ shr x 10
/-- The word i of a block's schedule, of those ahead of it. -/
def next (m : List UInt8) (i : Nat) (l : List UInt32) : UInt32 :=
  if i < 16 then word (m.getD (4 * i) 0) (m.getD (4 * i + 1) 0) (m.getD (4 * i + 2) 0) (m.getD (4 * i + 3) 0)
  else l.getD (i - 16) 0 + l.getD (i - 7) 0 + sig0 (l.getD (i - 15) 0) + sig1 (l.getD (i - 2) 0)
def sched (m : List UInt8) : Nat → List UInt32
  | 0 => []
  | i + 1 => sched m i ++ [next m i (sched m i)]
theorem sched_length (m : List UInt8) : ∀ i, (sched m i).length = i
  | 0 => rfl
  | i + 1 => by simp [sched, sched_length m i]
theorem sched_getD (m : List UInt8) {i j : Nat} (h : j < i) : ∀ n, i ≤ n → (sched m n).getD j 0 = (sched m i).getD j 0
  | 0, hn => by omega
  | n + 1, hn => by
    by_cases hin : i = n + 1
    · rw [hin]
    · rw [← sched_getD m h n (by omega)]
      simp only [sched, List.getD_eq_getElem?_getD]
      rw [List.getElem?_append_left (by rw [sched_length]; omega)]

def tOf (e f g h k x : UInt32) : UInt32 := h + rot3 e 6 11 25 + ((e &&& f) ^^^ (~~~e &&& g)) + k + x
def uOf (a b c : UInt32) : UInt32 := rot3 a 2 13 22 + ((a &&& b) ^^^ (a &&& c) ^^^ (b &&& c))
def round (k x : UInt32) : List UInt32 → List UInt32
  | [a, b, c, d, e, f, g, h] => [tOf e f g h k x + uOf a b c, a, b, c, d + tOf e f g h k x, e, f, g]
  | l => l
def rounds (m : List UInt8) (s : List UInt32) : Nat → List UInt32
  | 0 => s
  | i + 1 => round (K i) ((sched m 64).getD i 0) (rounds m s i)
theorem eight {s : List UInt32} (h : s.length = 8) : ∃ a b c d e f g x, s = [a, b, c, d, e, f, g, x] := by
  match s, h with
  | [a, b, c, d, e, f, g, x], _ => exact ⟨a, b, c, d, e, f, g, x, rfl⟩
theorem round_length (k x : UInt32) {s : List UInt32} (h : s.length = 8) : (round k x s).length = 8 := by
  obtain ⟨a, b, c, d, e, f, g, y, rfl⟩ := eight h; rfl
theorem rounds_length (m : List UInt8) {s : List UInt32} (h : s.length = 8) : ∀ i, (rounds m s i).length = 8
  | 0 => h
  | i + 1 => round_length _ _ (rounds_length m h i)
/-- The first i words of v added to s. -/
def adds (s v : List UInt32) (i : Nat) : List UInt32 := (List.zipWith (· + ·) s v).take i ++ s.drop i
/-- A block mixed in. -/
def mix (s : List UInt32) (m : List UInt8) : List UInt32 := List.zipWith (· + ·) s (rounds m s 64)
theorem mix_length {s : List UInt32} (h : s.length = 8) (m : List UInt8) : (mix s m).length = 8 := by simp [mix, h, rounds_length m h]
theorem adds_set {s v : List UInt32} (hs : s.length = 8) (hv : v.length = 8) {i : Nat} (hi : i < 8) : (adds s v i).set i (s.getD i 0 + v.getD i 0) = adds s v (i + 1) := by
  obtain ⟨a, b, c, d, e, f, g, x, rfl⟩ := eight hs
  obtain ⟨a', b', c', d', e', f', g', x', rfl⟩ := eight hv
  match i, hi with
  | 0, _ | 1, _ | 2, _ | 3, _ | 4, _ | 5, _ | 6, _ | 7, _ => rfl
theorem adds_getD {s v : List UInt32} (hs : s.length = 8) (hv : v.length = 8) {i : Nat} (hi : i < 8) : (adds s v i).getD i 0 = s.getD i 0 := by
  obtain ⟨a, b, c, d, e, f, g, x, rfl⟩ := eight hs
  obtain ⟨a', b', c', d', e', f', g', x', rfl⟩ := eight hv
  match i, hi with
  | 0, _ | 1, _ | 2, _ | 3, _ | 4, _ | 5, _ | 6, _ | 7, _ => rfl
theorem adds_zero (s v : List UInt32) : adds s v 0 = s := by simp [adds]
theorem adds_length {s v : List UInt32} (hs : s.length = 8) (hv : v.length = 8) {i : Nat} (hi : i ≤ 8) : (adds s v i).length = 8 := by simp [adds, hs, hv]; omega
theorem adds_all {s : List UInt32} (hs : s.length = 8) (m : List UInt8) : adds s (rounds m s 64) 8 = mix s m := by
  have := mix_length hs m
  simp only [adds]
  rw [List.take_of_length_le (by rw [← mix]; omega), List.drop_of_length_le (by omega), List.append_nil]; rfl
/-- A row half filled. -/
theorem fill_set {l : List UInt32} {x : UInt32} {n i : Nat} (hl : l.length = i) (hi : i < n) : (l ++ List.replicate (n - i) 0).set i x = (l ++ [x]) ++ List.replicate (n - (i + 1)) 0 := by
  subst hl
  rw [List.set_append_right _ _ (Nat.le_refl _), Nat.sub_self]
  obtain ⟨k, hk⟩ : ∃ k, n - l.length = k + 1 := ⟨n - l.length - 1, by omega⟩
  rw [hk, List.replicate_succ, List.set_cons_zero]
  have : n - (l.length + 1) = k := by omega
  rw [this]; simp
theorem fill_get {l : List UInt32} {n i j : Nat} (hl : l.length = i) (hj : j < i) : (l ++ List.replicate n 0)[j]? = some (l.getD j 0) := by
  rw [List.getElem?_append_left (by omega)]
  have : j < l.length := by omega
  simp [this]

/-! ### Bytes, block by block -/
def eatN : Nat → List UInt32 → List UInt8 → List UInt32 × List UInt8
  | 0, s, l => (s, l)
  | n + 1, s, l => eatN n (mix s (l.take 64)) (l.drop 64)
def eat (s : List UInt32) (l : List UInt8) : List UInt32 × List UInt8 := eatN (l.length / 64) s l
theorem eat_small {s : List UInt32} {l : List UInt8} (h : l.length < 64) : eat s l = (s, l) := by
  unfold eat; rw [Nat.div_eq_of_lt h]; rfl
theorem eat_big {s : List UInt32} {l : List UInt8} (h : 64 ≤ l.length) : eat s l = eat (mix s (l.take 64)) (l.drop 64) := by
  unfold eat
  have e : l.length / 64 = (l.drop 64).length / 64 + 1 := by simp; omega
  rw [e]; rfl
theorem eat_left (s : List UInt32) (l : List UInt8) : (eat s l).2.length < 64 := by
  suffices H : ∀ n (s : List UInt32) (l : List UInt8), l.length = n → (eat s l).2.length < 64 from H _ s l rfl
  intro n
  induction n using Nat.strongRecOn with
  | _ n ih =>
    intro s l hl
    by_cases h : l.length < 64
    · rw [eat_small h]; exact h
    · rw [eat_big (by omega)]; exact ih _ (by simp; omega) _ _ rfl
theorem eat_words {s : List UInt32} (hs : s.length = 8) (l : List UInt8) : (eat s l).1.length = 8 := by
  suffices H : ∀ n (s : List UInt32) (l : List UInt8), s.length = 8 → l.length = n → (eat s l).1.length = 8 from H _ s l hs rfl
  intro n
  induction n using Nat.strongRecOn with
  | _ n ih =>
    intro s l hs hl
    by_cases h : l.length < 64
    · rw [eat_small h]; exact hs
    · rw [eat_big (by omega)]; exact ih _ (by simp; omega) _ _ (mix_length hs _) rfl
theorem eat_append (s : List UInt32) (a b : List UInt8) : eat s (a ++ b) = eat (eat s a).1 ((eat s a).2 ++ b) := by
  suffices H : ∀ n (s : List UInt32) (a : List UInt8), a.length = n → eat s (a ++ b) = eat (eat s a).1 ((eat s a).2 ++ b) from H _ s a rfl
  intro n
  induction n using Nat.strongRecOn with
  | _ n ih =>
    intro s a ha
    by_cases h : a.length < 64
    · rw [eat_small h]
    · rw [eat_big (s := s) (l := a) (by omega), eat_big (by simp; omega), List.take_append_of_le_length (by omega), List.drop_append_of_le_length (by omega)]
      exact ih _ (by simp; omega) _ _ rfl

theorem eat_left_mod (s : List UInt32) (l : List UInt8) : (eat s l).2.length = l.length % 64 := by
  suffices H : ∀ n (s : List UInt32) (l : List UInt8), l.length = n → (eat s l).2.length = l.length % 64 from H _ s l rfl
  intro n
  induction n using Nat.strongRecOn with
  | _ n ih =>
    intro s l hl
    by_cases h : l.length < 64
    · rw [eat_small h, Nat.mod_eq_of_lt h]
    · rw [eat_big (by omega), ih _ (by simp; omega) _ _ rfl]; simp; omega
/-- How many bits, in eight bytes. -/
def lenB (n : Nat) : List UInt8 := (List.range 8).map fun i => UInt8.ofNat (n * 8 / 2 ^ (56 - 8 * i))
def zeros (n : Nat) : Nat := (119 - n % 64) % 64
def padOf (n : Nat) : List UInt8 := 128 :: List.replicate (zeros n) 0 ++ lenB n
def outB (ws : List UInt32) : List UInt8 := (List.range 32).map fun i => UInt8.ofNat ((ws.getD (i / 4) 0).toNat / 2 ^ (24 - i % 4 * 8))
def digest (m : List UInt8) : List UInt8 := outB (eat H0 (m ++ padOf m.length)).1
theorem lenB_length (n : Nat) : (lenB n).length = 8 := by simp [lenB]
theorem outB_length (ws : List UInt32) : (outB ws).length = 32 := by simp [outB]
theorem digest_length (m : List UInt8) : (digest m).length = 32 := outB_length _
theorem lenB_take (n i : Nat) (hi : i < 8) : (lenB n).take (i + 1) = (lenB n).take i ++ [UInt8.ofNat (n * 8 / 2 ^ (56 - 8 * i))] := by
  rw [List.take_add_one]
  simp [lenB, hi]
theorem outB_get (ws : List UInt32) (i : Nat) (hi : i < 32) : (outB ws)[i]? = some (UInt8.ofNat ((ws.getD (i / 4) 0).toNat / 2 ^ (24 - i % 4 * 8))) := by
  simp [outB, hi]
/-- A row half written. -/
theorem half_set {l z : List UInt8} {i n : Nat} {x : UInt8} (hl : l.length = n) (hz : z.length = n) (hi : i < n) (hx : l[i]? = some x) : (l.take i ++ z.drop i).set i x = l.take (i + 1) ++ z.drop (i + 1) := by
  rw [List.set_append_right _ _ (by simp; omega)]
  have : i - (l.take i).length = 0 := by simp; omega
  rw [this, List.drop_eq_getElem_cons (by omega), List.set_cons_zero, List.take_add_one, hx]
  simp
theorem byte_ofNat (n : Nat) : ((n : Int) % 256) = B8 (UInt8.ofNat n) := by
  unfold B8; rw [UInt8.toNat_ofNat']; simp
theorem shr_byte (x : UInt32) (k : Nat) : (U x / 2 ^ k) % 256 = B8 (UInt8.ofNat (x.toNat / 2 ^ k)) := by
  rw [← byte_ofNat]; unfold U; simp
end Go.Sha
