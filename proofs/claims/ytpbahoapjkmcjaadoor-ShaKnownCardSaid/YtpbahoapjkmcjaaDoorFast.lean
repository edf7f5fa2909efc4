/-
  SHA-256's block in natural numbers, laid so that the kernel reckons it fast; and that it is the plain one. No program is in sight.
-/
import Derived.Test.YtpbahoapjkmcjaaDoorSpec
namespace Go.Sha
/-- The number is reckoned before it is handed on. -/
def force {α : Type} (x : Nat) (f : Nat → α) : α := Nat.rec (motive := fun _ => α) (f 0) (fun n _ => f (Nat.succ n)) x
theorem force_eq {α : Type} (x : Nat) (f : Nat → α) : force x f = f x := by cases x <;> rfl

def rotN (x n k : Nat) : Nat := Nat.lor (Nat.shiftRight x n) (Nat.mod (Nat.shiftLeft x k) 4294967296)
theorem rotN_eq (x : UInt32) (n : Nat) : rotN x.toNat n (32 - n) = (rot x n).toNat := by rw [rot_toNat]; rfl

def runN {α : Type} : List Nat → Nat → Nat → Nat → Nat → Nat → Nat → Nat → Nat → (Nat → Nat → Nat → Nat → Nat → Nat → Nat → Nat → α) → α
  | [], a, b, c, d, e, f, g, h, k => k a b c d e f g h
  | kw :: l, a, b, c, d, e, f, g, h, k =>
    force (Nat.add (Nat.add (Nat.add h (Nat.xor (Nat.xor (rotN e 6 26) (rotN e 11 21)) (rotN e 25 7))) (Nat.xor (Nat.land e f) (Nat.land (Nat.sub 4294967295 e) g))) kw) fun t =>
    force (Nat.mod (Nat.add t (Nat.add (Nat.xor (Nat.xor (rotN a 2 30) (rotN a 13 19)) (rotN a 22 10)) (Nat.xor (Nat.xor (Nat.land a b) (Nat.land a c)) (Nat.land b c)))) 4294967296) fun a' =>
    force (Nat.mod (Nat.add d t) 4294967296) fun e' =>
    runN l a' a b c e' e f g k

def roundKW (kw : UInt32) : List UInt32 → List UInt32
  | [a, b, c, d, e, f, g, h] =>
    let t := h + rot3 e 6 11 25 + ((e &&& f) ^^^ (~~~e &&& g)) + kw
    [t + uOf a b c, a, b, c, d + t, e, f, g]
  | l => l
theorem round_kw (k x : UInt32) (s : List UInt32) : round k x s = roundKW (k + x) s := by
  unfold round roundKW
  split
  · simp only [tOf, UInt32.add_assoc]
  · rename_i h; split
    · rename_i a b c d e f g hh; exact absurd rfl (h a b c d e f g hh)
    · rfl

theorem t_nat (e f g h kw : UInt32) : Nat.add (Nat.add (Nat.add h.toNat (Nat.xor (Nat.xor (rotN e.toNat 6 26) (rotN e.toNat 11 21)) (rotN e.toNat 25 7))) (Nat.xor (Nat.land e.toNat f.toNat) (Nat.land (Nat.sub 4294967295 e.toNat) g.toNat))) kw.toNat
    = h.toNat + (rot3 e 6 11 25).toNat + ((e &&& f) ^^^ (~~~e &&& g)).toNat + kw.toNat := by
  have h1 := rotN_eq e 6
  have h2 := rotN_eq e 11
  have h3 := rotN_eq e 25
  have hn : Nat.sub 4294967295 e.toNat = (~~~e).toNat := by
    rw [UInt32.toNat_not]; rfl
  simp only [Nat.reduceSub] at h1 h2 h3
  rw [h1, h2, h3, hn]
  simp only [rot3, UInt32.toNat_xor, UInt32.toNat_and]
  rfl
theorem u_nat (a b c : UInt32) : Nat.add (Nat.xor (Nat.xor (rotN a.toNat 2 30) (rotN a.toNat 13 19)) (rotN a.toNat 22 10)) (Nat.xor (Nat.xor (Nat.land a.toNat b.toNat) (Nat.land a.toNat c.toNat)) (Nat.land b.toNat c.toNat))
    = (rot3 a 2 13 22).toNat + ((a &&& b) ^^^ (a &&& c) ^^^ (b &&& c)).toNat := by
  have h1 := rotN_eq a 2
  have h2 := rotN_eq a 13
  have h3 := rotN_eq a 22
  simp only [Nat.reduceSub] at h1 h2 h3
  rw [h1, h2, h3]
  simp only [rot3, UInt32.toNat_xor, UInt32.toNat_and]
  rfl
theorem runN_eq {α : Type} (k : Nat → Nat → Nat → Nat → Nat → Nat → Nat → Nat → α) : ∀ (l : List UInt32) (a b c d e f g h : UInt32), ∃ a' b' c' d' e' f' g' h' : UInt32,
    l.foldl (fun s kw => roundKW kw s) [a, b, c, d, e, f, g, h] = [a', b', c', d', e', f', g', h'] ∧
    runN (l.map UInt32.toNat) a.toNat b.toNat c.toNat d.toNat e.toNat f.toNat g.toNat h.toNat k = k a'.toNat b'.toNat c'.toNat d'.toNat e'.toNat f'.toNat g'.toNat h'.toNat
  | [], a, b, c, d, e, f, g, h => ⟨a, b, c, d, e, f, g, h, rfl, rfl⟩
  | kw :: l, a, b, c, d, e, f, g, h => by
    obtain ⟨a', b', c', d', e', f', g', h', h1, h2⟩ := runN_eq k l (h + rot3 e 6 11 25 + ((e &&& f) ^^^ (~~~e &&& g)) + kw + uOf a b c) a b c (d + (h + rot3 e 6 11 25 + ((e &&& f) ^^^ (~~~e &&& g)) + kw)) e f g
    refine ⟨a', b', c', d', e', f', g', h', h1, ?_⟩
    rw [← h2]
    simp only [List.map_cons, runN, force_eq, t_nat, u_nat]
    have ea : Nat.mod (Nat.add (h.toNat + (rot3 e 6 11 25).toNat + ((e &&& f) ^^^ (~~~e &&& g)).toNat + kw.toNat) ((rot3 a 2 13 22).toNat + ((a &&& b) ^^^ (a &&& c) ^^^ (b &&& c)).toNat)) 4294967296 = (h + rot3 e 6 11 25 + ((e &&& f) ^^^ (~~~e &&& g)) + kw + uOf a b c).toNat := by
      show (_ + _) % 4294967296 = _
      simp only [uOf, UInt32.toNat_add]
      omega
    have ee : Nat.mod (Nat.add d.toNat (h.toNat + (rot3 e 6 11 25).toNat + ((e &&& f) ^^^ (~~~e &&& g)).toNat + kw.toNat)) 4294967296 = (d + (h + rot3 e 6 11 25 + ((e &&& f) ^^^ (~~~e &&& g)) + kw)).toNat := by
      show (_ + _) % 4294967296 = _
      simp only [UInt32.toNat_add]
      omega
    rw [ea, ee]
end Go.Sha
