/-
  '==' of two arrays of bytes. No program is in sight.
-/
import Derived.Test.YtpbahoapjkmcjaaDoorBytes
import Derived.Laws.StructEq
namespace Go.Calm
open RowKit Sha
def arrV (l : List UInt8) : Array Value := (l.map bv).toArray
theorem run_equalIn_bytes {P : Program} (w : World) (d : Nat) (t e : TypeId) (n : Nat) (i : TypeInfo) (ht : P.underlying t = some (.array n e)) (he : P.underlying e = some (.int .u8)) (hi : P.info? e = some i) (hs : i.size = 1)
    (a b : List UInt8) (ha : a.length = n) (hb : b.length = n) : (Op.equalIn (d + 2) t (.agg (arrV a)) (.agg (arrV b))).run P w = .ok (decide (a = b)) w := by
  have hsz : (sizeOf e).run P w = .ok 1 w := by simp [sizeOf, typeInfo, hi, hs]
  unfold Op.equalIn
  simp only [Sem.run_bind, run_underlying ht, Result.andThen_ok, hsz]
  rw [Std.Legacy.Range.forIn_eq_forIn_range']
  simp only [Std.Legacy.Range.size]
  have hpart : ∀ (l : List UInt8) (j : Nat), j < l.length → (part e (arrV l) (j * 1)).run P w = .ok (bv (l.getD j 0)) w := fun l j hj => by
    have hag : (isAgg e).run P w = .ok false w := by simp [isAgg, run_underlying he]
    simp [part, arrV, hag, hj]
  have hloop : ∀ m k, k + m = n → (forIn (List.range' k m) ((none : Option Bool), ()) fun i (__s : Option Bool × Unit) => (do
            let x ← part e (arrV a) (i * 1)
            let y ← part e (arrV b) (i * 1)
            let r ← Op.equalIn (d + 1) e x y
            if (!r) = true then pure (ForInStep.done (some false, ())) else pure (ForInStep.yield (none, ())) : Sem (ForInStep (Option Bool × Unit)))).run P w =
      .ok (if a.drop k = b.drop k then (none, ()) else (some false, ())) w := by
    intro m
    induction m with
    | zero =>
      intro k hk
      have h1 : a.drop k = [] := List.drop_of_length_le (by omega)
      have h2 : b.drop k = [] := List.drop_of_length_le (by omega)
      simp [h1, h2]
    | succ m ih =>
      intro k hk
      have hka : k < a.length := by omega
      have hkb : k < b.length := by omega
      have e1 : a.drop k = a.getD k 0 :: a.drop (k + 1) := by rw [List.drop_eq_getElem_cons hka]; simp [hka]
      have e2 : b.drop k = b.getD k 0 :: b.drop (k + 1) := by rw [List.drop_eq_getElem_cons hkb]; simp [hkb]
      rw [List.range'_succ, List.forIn_cons]
      simp only [Sem.run_bind, hpart a k hka, hpart b k hkb, Result.andThen_ok, run_equalIn_int (P := P) w d e .u8 .u8 _ _ he]
      by_cases hx : a.getD k 0 = b.getD k 0
      · have : (B8 (a.getD k 0) == B8 (b.getD k 0)) = true := by rw [hx]; simp
        rw [this]
        simp only [Bool.not_true, Bool.false_eq_true, if_false, Sem.run_pure, Result.andThen_ok]
        rw [ih (k + 1) (by omega), e1, e2, hx]
        simp
      · have : (B8 (a.getD k 0) == B8 (b.getD k 0)) = false := by
          rw [beq_eq_false_iff_ne]; intro h; exact hx (B8_inj h)
        rw [this]
        simp only [Bool.not_false, if_true, Sem.run_pure, Result.andThen_ok]
        rw [e1, e2, if_neg (fun h => hx (List.cons.inj h).1)]
  have := hloop n 0 (by omega)
  simp only [List.drop_zero] at this
  simp only [Nat.sub_zero, Nat.add_sub_cancel, Nat.div_one]
  rw [this]
  by_cases hab : a = b
  · simp [hab]
  · simp [hab]
theorem run_eql_bytes {P : Program} (w : World) (t e : TypeId) (n : Nat) (i : TypeInfo) (ht : P.underlying t = some (.array n e)) (he : P.underlying e = some (.int .u8)) (hi : P.info? e = some i) (hs : i.size = 1)
    (a b : List UInt8) (ha : a.length = n) (hb : b.length = n) : (binOp .eql t (.agg (arrV a)) (.agg (arrV b))).run P w = .ok (.bool (decide (a = b))) w := by
  rw [run_eql_struct, run_equalIn_bytes w 9998 t e n i ht he hi hs a b ha hb]; rfl
theorem run_neq_bytes {P : Program} (w : World) (t e : TypeId) (n : Nat) (i : TypeInfo) (ht : P.underlying t = some (.array n e)) (he : P.underlying e = some (.int .u8)) (hi : P.info? e = some i) (hs : i.size = 1)
    (a b : List UInt8) (ha : a.length = n) (hb : b.length = n) : (binOp .neq t (.agg (arrV a)) (.agg (arrV b))).run P w = .ok (.bool (!decide (a = b))) w := by
  rw [run_neq_struct, run_equalIn_bytes w 9998 t e n i ht he hi hs a b ha hb]; rfl
end Go.Calm
