/-
  What is left to come, as a list: plain laws on lists.
-/
import Derived.Test.YtfhjpnhchggljaaSpend
namespace Go.Proofs.Ytfhjpnhchggljaa
open Go.RowKit Go.Sha Go.Calm
/-- Each that was sent, as often as it may still come. -/
def expl : List (Nat × List UInt8) → List Nat → List (Nat × List UInt8)
  | x :: S, k :: ls => List.replicate k x ++ expl S ls
  | _, _ => []
theorem expl_snoc (x : Nat × List UInt8) (k : Nat) : ∀ (S : List (Nat × List UInt8)) (ls : List Nat), S.length = ls.length → expl (S ++ [x]) (ls ++ [k]) = expl S ls ++ List.replicate k x
  | [], [], _ => by simp [expl]
  | y :: S, a :: ls, h => by
    have := expl_snoc x k S ls (by simpa using h)
    simp [expl, this]
  | [], _ :: _, h => by simp at h
  | _ :: _, [], h => by simp at h
theorem expl_set (x : Nat × List UInt8) (b : Nat) : ∀ (S : List (Nat × List UInt8)) (ls : List Nat) (j a : Nat), S[j]? = some x → ls[j]? = some a → (expl S (ls.set j (b + 1))).Perm (x :: expl S (ls.set j b))
  | y :: S, c :: ls, 0, a, hx, _ => by
    simp at hx; subst hx
    simp [expl, List.replicate_succ]
  | y :: S, c :: ls, j + 1, a, hx, ha => by
    have := expl_set x b S ls j a (by simpa using hx) (by simpa using ha)
    simp only [List.set_cons_succ, expl]
    exact (this.append_left _).trans List.perm_middle
  | [], _, j, _, hx, _ => by simp at hx
  | _ :: _, [], _, _, _, ha => by simp at ha
theorem mem_expl {x : Nat × List UInt8} : ∀ {S : List (Nat × List UInt8)} {ls : List Nat}, x ∈ expl S ls → ∃ j k : Nat, S[j]? = some x ∧ ls[j]? = some (k + 1)
  | y :: S, c :: ls, h => by
    simp only [expl, List.mem_append] at h
    rcases h with h | h
    · obtain ⟨hc, rfl⟩ := List.mem_replicate.1 h
      exact ⟨0, c - 1, rfl, by simp; omega⟩
    · obtain ⟨j, k, h1, h2⟩ := mem_expl h
      exact ⟨j + 1, k, by simpa using h1, by simpa using h2⟩
  | [], _, h => by simp [expl] at h
  | _ :: _, [], h => by simp [expl] at h
theorem expl_length : ∀ (S : List (Nat × List UInt8)) (ls : List Nat), S.length = ls.length → (expl S ls).length = ls.sum
  | [], [], _ => by simp [expl]
  | y :: S, a :: ls, h => by
    have := expl_length S ls (by simpa using h)
    simp [expl, this]
  | [], _ :: _, h => by simp at h
  | _ :: _, [], h => by simp at h
theorem le_sum : ∀ {ls : List Nat} {k : Nat}, k ∈ ls → k ≤ ls.sum
  | a :: ls, k, h => by
    rcases List.mem_cons.1 h with rfl | h
    · simp
    · have := le_sum h; simp; omega
  | [], _, h => by cases h
theorem perm_erase (L : List (Nat × List UInt8)) {i : Nat} {x : Nat × List UInt8} (h : L[i]? = some x) : L.Perm (x :: L.eraseIdx i) := by
  obtain ⟨hi, rfl⟩ := List.getElem?_eq_some_iff.1 h
  rw [List.eraseIdx_eq_take_drop_succ]
  have e : L = L.take i ++ L[i] :: L.drop (i + 1) := by rw [← List.drop_eq_getElem_cons hi, List.take_append_drop]
  conv => lhs; rw [e]
  exact List.perm_middle
/-- One that comes is paid for. -/
theorem keep_take {L S : List (Nat × List UInt8)} {ls : List Nat} {i j k : Nat} {x : Nat × List UInt8} (h : L.Perm (expl S ls)) (hx : L[i]? = some x) (h1 : S[j]? = some x) (h2 : ls[j]? = some (k + 1)) : (L.eraseIdx i).Perm (expl S (ls.set j k)) := by
  have h3 := expl_set x k S ls j _ h1 h2
  have e : ls.set j (k + 1) = ls := by
    obtain ⟨hj, e⟩ := List.getElem?_eq_some_iff.1 h2
    rw [← e, List.set_getElem_self]
  rw [e] at h3
  exact ((perm_erase L hx).symm.trans (h.trans h3)).cons_inv
/-- One that is doubled may come once more. -/
theorem keep_double {L S : List (Nat × List UInt8)} {ls : List Nat} {j k : Nat} {x : Nat × List UInt8} (h : L.Perm (expl S ls)) (h1 : S[j]? = some x) (h2 : ls[j]? = some (k + 1)) : (L ++ [x]).Perm (expl S (ls.set j (k + 2))) := by
  have h3 := expl_set x (k + 1) S ls j _ h1 h2
  have e : ls.set j (k + 1) = ls := by
    obtain ⟨hj, e⟩ := List.getElem?_eq_some_iff.1 h2
    rw [← e, List.set_getElem_self]
  rw [e] at h3
  exact (List.perm_append_singleton x L).trans ((h.cons x).trans h3.symm)
theorem keep_send {L S : List (Nat × List UInt8)} {ls : List Nat} {x : Nat × List UInt8} (h : L.Perm (expl S ls)) (hl : S.length = ls.length) : (L ++ [x]).Perm (expl (S ++ [x]) (ls ++ [1])) := by
  rw [expl_snoc x 1 S ls hl]
  exact h.append_right _
theorem keep_hold {L S : List (Nat × List UInt8)} {ls : List Nat} {i : Nat} {x : Nat × List UInt8} (h : L.Perm (expl S ls)) (hx : L[i]? = some x) : (L.eraseIdx i ++ [x]).Perm (expl S ls) :=
  (List.perm_append_singleton x _).trans ((perm_erase L hx).symm.trans h)
theorem keep_hit {L S : List (Nat × List UInt8)} {ls : List Nat} {i : Nat} {x : Nat × List UInt8} (h : L.Perm (expl S ls)) (hx : L[i]? = some x) : ∃ j k : Nat, S[j]? = some x ∧ ls[j]? = some (k + 1) :=
  mem_expl (h.mem_iff.1 (List.mem_of_getElem? hx))
theorem keep_small {L S : List (Nat × List UInt8)} {ls : List Nat} (h : L.Perm (expl S ls)) (hl : S.length = ls.length) : L.length = ls.sum := by
  rw [h.length_eq, expl_length S ls hl]
end Go.Proofs.Ytfhjpnhchggljaa
