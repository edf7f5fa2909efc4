/-
  The document's net: its block, its row; 'append' onto rows, once more.
-/
import Derived.Test.YtfhjpnhchggljaaAlike
namespace Go.Calm
open RowKit
section
variable {P : Program} {w : World} {F : Nat → Prop} {b s n c : Nat} {cs : List Value} {p : Option Addr}
theorem run_append_row_none (h : RowOf w F b s cs p n c) (t ty e : TypeId) (i : TypeInfo) (ht : P.underlying t = some (.slice e)) (hi : P.info? e = some i) :
    (Builtin.append_ #[t, t] ty #[.slice p n c, .slice none 0 0]).run P w = .ok (.slice p n c) w := by
  cases hp : p with
  | none =>
    obtain ⟨rfl, rfl⟩ := h.nil hp
    simp [Builtin.append_, run_underlying ht, sizeOf, typeInfo, hi, Builtin.lenOf, Builtin.firstCells]
  | some ad =>
    have hnc := h.le
    simp [Builtin.append_, run_underlying ht, sizeOf, typeInfo, hi, Builtin.lenOf, Builtin.firstCells, hnc, storeCells]
end
/-- 'append' of nothing. -/
theorem wpList_append_row_none {P : Program} {w : World} {ops : Array Oper} {rest : List Oper} {o : Oper} {a : Act} {Q : Exit → Act → World → Prop} (hgd : o.guard = none) (s x : Operand) (t : TypeId)
    (ho : o.op = .call { callee := .builtin .append, args := #[s, x], argTypes := #[t, t] })
    (e : TypeId) (i : TypeInfo) (ht : P.underlying t = some (.slice e)) (hi : P.info? e = some i)
    (F : Nat → Prop) (b size n c : Nat) (p : Option Addr) (cs : List Value) (hs : a.eval s = .slice p n c) (hr : RowOf w F b size cs p n c) (hx : a.eval x = .slice none 0 0)
    (h : wpList P ops Q rest (a.put o.dst (.slice p n c)) w) : wpList P ops Q (o :: rest) a w := by
  refine wpList_plain hgd fun K hK => ?_
  have hrun := run_append_row_none (P := P) hr t o.type e i ht hi
  unfold Oper.wp
  simp [execOp, ho, resolve, invoke, builtin, hs, hx, hrun, Result.andThen]
  exact hK _ _ h
/-- 'append' onto such a row, as RowW's law; and what the row held is there still. -/
theorem wpList_append_keep {P : Program} {w : World} {ops : Array Oper} {rest : List Oper} {o : Oper} {a : Act} {Q : Exit → Act → World → Prop} (hgd : o.guard = none) (s x : Operand) (t : TypeId)
    (ho : o.op = .call { callee := .builtin .append, args := #[s, x], argTypes := #[t, t] })
    (e : TypeId) (i : TypeInfo) (z : Value) (size bytes : Nat) (ht : P.underlying t = some (.slice e)) (hi : P.info? e = some i) (hz : i.zero = some z)
    (hsize : i.size = size) (hby : i.bytes = bytes) (hzs : z.cells.size = size) (hsz : 0 < size)
    (F F' : Nat → Prop) (b n c : Nat) (p : Option Addr) (cs : List Value) (hs : a.eval s = .slice p n c) (hr : RowOf w F b size cs p n c) (hF : ∀ k, k < w.heap.size → F k → F' k) (hF' : ∀ k, w.heap.size ≤ k → F' k) (hb : b < w.heap.size)
    (ad : Addr) (m c2 : Nat) (news : List Value) (hx : a.eval x = .slice (some ad) m c2) (hl : news.length = m * size)
    (hnews : ∀ j u, news[j]? = some u → w.cell? (ad.add j) = some u) (h1 : ∀ u ∈ news, u.oneCell' = true)
    (h63 : n + m ≤ maxLen) (hbytes : (n + m) * bytes ≤ 140737488355328)
    (h : ∀ p' c' w', RowOf w' F' b size (cs ++ news) p' (n + m) c' → Turns (rowBlk p) w w' → (∀ k, k < w.heap.size → rowBlk p' k → rowBlk p k) → (∀ g j u, p = some ⟨g, 0, none⟩ → cs[j]? = some u → w'.cell? ⟨g, j, none⟩ = some u) → wpList P ops Q rest (a.put o.dst (.slice p' (n + m) c')) w') :
    wpList P ops Q (o :: rest) a w := by
  have hgrow : ∀ v' w', w'.ownsRow w.heap.size e size v' (n + m) (cs ++ news) → w.grownBy w' none → wpList P ops Q rest (a.put o.dst v') w' := by
    intro v' w' h2 h3
    obtain ⟨p', c', rfl, h4, h5⟩ := RowOf.own h2 hb hF'
    have ht' : Turns (fun _ => False) w w' := Turns.of_grown h3 (fun k hk => by cases hk)
    refine h p' c' w' h4 (ht'.mono fun _ _ h => h.elim) (fun k hk hr => absurd (h5 k hr) (by omega)) (fun g j u hp hu => ?_)
    obtain ⟨g', e', _, _, hlt, hc, _⟩ := hr.at_ _ hp
    cases e'
    exact (ht'.cell hlt id).trans (hc j u hu)
  cases hp : p with
  | none =>
    subst hp
    obtain ⟨rfl, rfl⟩ := hr.nil rfl
    by_cases hm : m = 0
    · subst hm
      have : news = [] := List.eq_nil_of_length_eq_zero (by simpa using hl)
      subst this
      have hcs : cs = [] := List.eq_nil_of_length_eq_zero (by simpa using hr.len)
      subst hcs
      refine wpList_plain hgd fun K hK' => ?_
      obtain ⟨v', w', hrun, r1, r2, _⟩ := run_append_own (P := P) w w.heap.size t o.type e i z size bytes ht hi hz hsize hby hzs hsz (.slice none 0 0) 0 [] (World.ownsRow_nil w _ e size) ad 0 c2 [] (by simp) (fun j u hu => by simp at hu) (fun u hu => by simp at hu) h63 hbytes (Nat.le_refl _)
      unfold Oper.wp
      simp [execOp, ho, resolve, invoke, builtin, hs, hx, hrun, Result.andThen]
      exact hK' _ _ (hgrow v' w' (by simpa using r1) r2)
    · exact wpList_append_grows w hgd s x t ho e i z size bytes ht hi hz hsize hby hzs hsz none 0 0 cs hs (fun _ => ⟨rfl, rfl⟩) hr.len (fun b hb => by cases hb) ad m c2 news hx hl hnews h1 (by omega) h63 hbytes hgrow
  | some a0 =>
    subst hp
    obtain ⟨g, rfl, hFg, hgb, hgs, hcell, hsp⟩ := hr.at_ a0 rfl
    refine wpList_append_arg w hgd s x t ho e i z size bytes ht hi hz hsize hby hzs hsz g 0 n c cs hs hr.len (fun j u hu => by rw [Nat.zero_add]; exact hcell j u hu) ad m c2 news hx hl hnews h1 ?_ h63 hbytes ?_ (fun _ => hgrow)
    · intro hroom j hj
      have := Nat.mul_le_mul_right size hroom
      rw [Nat.add_mul] at this
      rw [Nat.zero_add]
      exact hsp _ (by omega)
    · intro hroom
      have hms := Nat.mul_le_mul_right size hroom
      rw [Nat.add_mul] at hms
      have hlen := hr.len
      rw [Nat.zero_add]
      have hthere : ∀ j, j < news.length → (w.cell? ⟨g, n * size + j, none⟩).isSome = true := fun j hj => (hsp _ (by omega)).1
      have hT : Turns (rowBlk (some ⟨g, 0, none⟩)) w (w.setCells g (n * size) news) := Turns.setCells g news _ w (Turns.refl _ _) (fun _ => rowBlk_some.2 rfl)
      have hold : ∀ j u, cs[j]? = some u → (w.setCells g (n * size) news).cell? ⟨g, j, none⟩ = some u := fun j u hu => by
        have hj := (List.getElem?_eq_some_iff.1 hu).1
        rw [World.cell?_setCells_out g news _ w _ (fun _ _ => .inl (by rw [← hlen]; exact hj))]
        exact hcell j u hu
      refine h _ _ _ ⟨by rw [List.length_append, hr.len, hl, Nat.add_mul], hroom, hr.max, (fun h => by simp at h), fun ad' ha' => ?_⟩ hT (fun k _ hk => hk) (fun g' j u e hu => by cases e; exact hold j u hu)
      simp at ha'; subst ha'
      refine ⟨g, rfl, hF g hgs hFg, hgb, Nat.lt_of_lt_of_le hgs hT.size, fun j u hu => ?_, fun j hj2 => ?_⟩
      · by_cases hj : j < n * size
        · exact hold j u (by rwa [List.getElem?_append_left (by omega)] at hu)
        · rw [List.getElem?_append_right (by omega)] at hu
          obtain ⟨hj', rfl⟩ := List.getElem?_eq_some_iff.1 hu
          have := World.cell?_setCells_in g news (n * size) w hthere (j - cs.length) hj'
          rwa [show n * size + (j - cs.length) = j by omega] at this
      · rw [World.frozen?_setCells]
        refine ⟨?_, (hsp j hj2).2⟩
        by_cases hj : j < n * size
        · rw [World.cell?_setCells_out g news _ w _ (fun _ _ => .inl hj)]; exact (hsp j hj2).1
        by_cases hj' : j < n * size + news.length
        · have := World.cell?_setCells_in g news (n * size) w hthere (j - n * size) (by clear hl hlen; omega)
          rw [show n * size + (j - n * size) = j by omega] at this
          rw [this]; rfl
        · rw [World.cell?_setCells_out g news _ w _ (fun _ _ => .inr (Nat.le_of_not_lt hj'))]; exact (hsp j hj2).1
end Go.Calm
namespace Go.Proofs.Ytfhjpnhchggljaa
open Go.RowKit Go.Sha Go.Calm
/-- The cells of the document's letters. -/
def rcells : List (Nat × List UInt8) → List Value
  | [] => []
  | x :: L => .int .u8 x.1 :: .string ⟨x.2.toArray⟩ :: rcells L
theorem rcells_length : ∀ L, (rcells L).length = L.length * 2
  | [] => rfl
  | x :: L => by simp only [rcells, List.length_cons, rcells_length L]; omega
theorem rcells_append : ∀ L M, rcells (L ++ M) = rcells L ++ rcells M
  | [], _ => rfl
  | x :: L, M => by simp [rcells, rcells_append L M]
theorem rcells_take : ∀ (L : List (Nat × List UInt8)) (i : Nat), rcells (L.take i) = (rcells L).take (i * 2)
  | [], i => by simp [rcells]
  | x :: L, 0 => by simp [rcells]
  | x :: L, i + 1 => by rw [show (i + 1) * 2 = i * 2 + 1 + 1 by omega]; simp [rcells, rcells_take L i]
theorem rcells_drop : ∀ (L : List (Nat × List UInt8)) (i : Nat), rcells (L.drop i) = (rcells L).drop (i * 2)
  | [], i => by simp [rcells]
  | x :: L, 0 => by simp
  | x :: L, i + 1 => by rw [show (i + 1) * 2 = i * 2 + 1 + 1 by omega]; simp [rcells, rcells_drop L i]
theorem rcells_at : ∀ (L : List (Nat × List UInt8)) {i : Nat} {x : Nat × List UInt8}, L[i]? = some x → (rcells L)[i * 2]? = some (.int .u8 x.1) ∧ (rcells L)[i * 2 + 1]? = some (.string ⟨x.2.toArray⟩)
  | [], _, _, h => by simp at h
  | y :: L, 0, x, h => by simp at h; subst h; exact ⟨rfl, rfl⟩
  | y :: L, i + 1, x, h => by
    have := rcells_at L (i := i) (x := x) (by simpa using h)
    rw [show (i + 1) * 2 = i * 2 + 1 + 1 by omega, show i * 2 + 1 + 1 + 1 = (i * 2 + 1) + 1 + 1 by omega]
    exact ⟨by simpa [rcells] using this.1, by simpa [rcells] using this.2⟩
theorem rcells_one : ∀ (L : List (Nat × List UInt8)), ∀ u ∈ rcells L, u.oneCell' = true
  | [], u, hu => by cases hu
  | x :: L, u, hu => by
    simp only [rcells, List.mem_cons] at hu
    rcases hu with rfl | rfl | hu
    · rfl
    · rfl
    · exact rcells_one L u hu
/-- Block b is the document's net for n carriers; its letters are L. -/
structure RNetP (w : World) (F : Nat → Prop) (b n : Nat) (L : List (Nat × List UInt8)) (p : Option Addr) (c : Nat) : Prop where
  own : F b
  rw_ : Rw w b [.int .i64 n, .slice p L.length c] 49
  row : RowOf w F b 2 (rcells L) p L.length c
def RNet (w : World) (F : Nat → Prop) (b n : Nat) (L : List (Nat × List UInt8)) : Prop := ∃ p c, RNetP w F b n L p c
section
variable {w w' : World} {F F' R : Nat → Prop} {b n : Nat} {L : List (Nat × List UInt8)} {p : Option Addr} {c : Nat}
theorem RNetP.lt (h : RNetP w F b n L p c) : b < w.heap.size := h.rw_.lt
theorem RNetP.row_of (h : RNetP w F b n L p c) {m : Nat} (hm : m = L.length) : RowOf w F b 2 (rcells L) p m c := by subst hm; exact h.row
theorem RNetP.mono (h : RNetP w F b n L p c) (hF : ∀ k, k < w.heap.size → F k → F' k) : RNetP w F' b n L p c :=
  ⟨hF b h.lt h.own, h.rw_, h.row.mono hF⟩
theorem RNetP.turns (h : RNetP w F b n L p c) (k : Turns R w w') (hr : ∀ x, F x → ¬ R x) : RNetP w' F b n L p c :=
  ⟨h.own, h.rw_.turns k (hr b h.own), h.row.turns k (fun g hg => hr g (h.row.blk hg).1)⟩
theorem RNetP.store {old : Value} {m : Nat} (hrw : Rw w b [.int .i64 n, old] 49) (own : F b) (hm : m = L.length) (row : RowOf w F b 2 (rcells L) p m c) :
    RNetP (w.setCell ⟨b, 1, none⟩ (.slice p m c)) F b n L p c := by
  subst hm
  have ht : Turns (· = b) w (w.setCell ⟨b, 1, none⟩ (.slice p L.length c)) := (Turns.refl (· = b) w).setCell (a := ⟨b, 1, none⟩) (fun _ => rfl) _
  exact ⟨own, hrw.set 1 _, row.turns ht (fun g hg => (row.blk hg).2.1)⟩
theorem RNetP.net (h : RNetP w F b n L p c) : RNet w F b n L := ⟨_, _, h⟩
theorem RNet.lt (h : RNet w F b n L) : b < w.heap.size := by obtain ⟨p, c, h⟩ := h; exact h.lt
theorem RNet.mono (h : RNet w F b n L) (hF : ∀ k, k < w.heap.size → F k → F' k) : RNet w F' b n L := by obtain ⟨p, c, h⟩ := h; exact ⟨p, c, h.mono hF⟩
theorem RNet.turns (h : RNet w F b n L) (k : Turns R w w') (hr : ∀ x, F x → ¬ R x) : RNet w' F b n L := by obtain ⟨p, c, h⟩ := h; exact ⟨p, c, h.turns k hr⟩
end
end Go.Proofs.Ytfhjpnhchggljaa
