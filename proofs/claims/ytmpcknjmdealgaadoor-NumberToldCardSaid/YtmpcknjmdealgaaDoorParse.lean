/-
  What a text reads as, by the program and by the document.
-/
import Derived.Test.YtmpcknjmdealgaaDoorText
import Derived.Laws.ResultCell
namespace Go.Proofs.YtmpcknjmdealgaaDoor
open Go.RowKit Go.Sha Go.Calm
/-- What Parse says of a text. -/
def parseE (l : List UInt8) : Nat :=
  if l.length ≠ 14 then 90 else if l.all isDig = false then 90 else if valN l / 10 % 7 ≠ valN l % 10 then 70 else if mayN (valN l / 100000000000) (valN l / 10 % 10000000000) = false then 1 else 0
def ticketV (c s : Nat) : Value := .agg #[.int .u8 c, .int .u64 s]
def parseT (l : List UInt8) : Value := if parseE l = 0 then ticketV (valN l / 100000000000) (valN l / 10 % 10000000000) else ticketV 0 0
def parseV (l : List UInt8) : Value := .tuple #[parseT l, .int .i64 (parseE l)]

theorem ret_ticket {fn : Func} {p u : Tmp} (h : fn.results = #[.cell p 24, .tmp u]) {tmps : Array Value} {w : World} {g : Nat} (hp : tmps.getD p undef = .pointer (some ⟨g, 0, none⟩)) {x y e : Value} (hg : Rw w g [x, y] 24) (hu : tmps.getD u undef = e) :
    (results fn tmps).run Tryd.prog w = .ok (.tuple #[.agg #[x, y], e]) w := by
  rw [results_cell_tmp h, hp, hu]
  have := run_loadVar_row (P := Tryd.prog) w g 24 24 #[x, y] (0, 0) _ hg Tryd.underlying24 rfl (by kernel_rfl)
  simp [asAddr, this, Result.andThen]
theorem one2 (x y : Value) (hx : x.oneCell' = true) (hy : y.oneCell' = true) : ∀ u ∈ [x, y], u.oneCell' = true := by
  intro u hu
  simp at hu
  rcases hu with rfl | rfl <;> assumption

set_option maxRecDepth 100000 in
set_option maxHeartbeats 1000000 in
theorem parse_any (l : List UInt8) (hl : l.length ≤ 4611686018427387904) (w : World) :
    Calls Tryd.prog 12 #[.string ⟨l.toArray⟩] w fun e w' => e = .returned (parseV l) ∧ Below w.heap.size w w' := by
  obtain ⟨s, hs⟩ : ∃ s : ByteArray, s = ⟨l.toArray⟩ := ⟨_, rfl⟩
  have hsz : s.size = l.length := by rw [hs]; simp [ByteArray.size]
  rw [← hs]
  have HS := Calm.hid hs
  have HZ0 : Hid (Rw (w.alloc (.cells #[.int .u8 0, .int .u64 0] 24)) w.heap.size [.int .u8 0, .int .u64 0] 24) := Rw.new w _ 24
  have HB0 : Hid (Below w.heap.size w (w.alloc (.cells #[.int .u8 0, .int .u64 0] 24))) := (Below.refl _ _).alloc (Nat.le_refl _) _
  clear hs
  by_cases h14 : l.length = 14
  · have hne : ((l.length : Int) != 14) = false := by simp; omega
    cases hall : l.all isDig
    · have HE : Hid (parseV l = .tuple #[ticketV 0 0, .int .i64 90]) := by
        have e : parseE l = 90 := by rw [parseE, if_neg (by omega), if_pos hall]
        show parseV l = _
        rw [parseV, parseT, e]; rfl
      have HV : Hid (valOf l = .tuple #[.int .u64 0, .bool false]) := by show valOf l = _; rw [valOf, hall]; rfl
      clear hall
      go_enter Tryd.func12, Tryd.ntmps12
      go_wp2_with fail
      rw [HS.out]
      refine (value_any l hl _).mono ?_
      rintro e w2 ⟨rfl, hb2⟩
      rw [HV.out, ← HS.out]
      have HZ := Calm.hid (HZ0.out.below hb2)
      have HB2 := Calm.hid (HB0.out.trans (hb2.mono HB0.out.size))
      clear hb2
      go_wp2_with (refine wpList_store_rw rfl 24 (.tmp 2) (.tmp 29) rfl w.heap.size [.int .u8 0, .int .u64 0] rfl rfl 24 _ HZ.out (by kernel_rfl) rfl (one2 _ _ rfl rfl) ?_; intro w9 hr9 ht9; have HR9 := Calm.hid hr9; have HB9 : Hid (Below w.heap.size w w9) := ((Turns.of_below HB2.out).step ht9 (R := fun _ => False) (fun k hk e => by omega)).below (fun _ _ h => h); clear hr9 ht9)
      rw [HE.out]
      exact bodyPost_ret (ret_ticket rfl rfl HR9.out rfl) rfl ⟨rfl, HB9.out⟩
    · obtain ⟨v, hv⟩ : ∃ v, v = valN l := ⟨_, rfl⟩
      have hvlt : v < 100000000000000 := by have := valN_lt l hall; rw [h14] at this; rw [hv]; exact this
      have HVO : Hid (valOf l = .tuple #[.int .u64 v, .bool true]) := by show valOf l = _; rw [valOf, hall, accW_eq hall (by omega), hv]; rfl
      obtain ⟨c, hc⟩ : ∃ c, c = v / 100000000000 := ⟨_, rfl⟩
      obtain ⟨q, hq⟩ : ∃ q, q = v / 10 := ⟨_, rfl⟩
      obtain ⟨n, hn⟩ : ∃ n, n = q % 10000000000 := ⟨_, rfl⟩
      obtain ⟨r, hr⟩ : ∃ r, r = q % 7 := ⟨_, rfl⟩
      obtain ⟨d, hd⟩ : ∃ d, d = v % 10 := ⟨_, rfl⟩
      have e1 : (v : Int) / 100000000000 = (c : Int) := by omega
      have e2 : (v : Int) / 10 = (q : Int) := by omega
      have e3 : (q : Int) % 10000000000 = (n : Int) := by omega
      have e4 : (q : Int) % 7 = (r : Int) := by omega
      have e5 : (v : Int) % 10 = (d : Int) := by omega
      have hc1000 : c < 1000 := by omega
      have hce : (c : Int) % 256 = ((c % 256 : Nat) : Int) := by omega
      have ep : parseE l = if r ≠ d then 70 else if mayN c n = false then 1 else 0 := by
        rw [parseE, if_neg (by omega), if_neg (by rw [hall]; simp), ← hv, ← hq, ← hc, ← hn, ← hr, ← hd]
      have et : parseT l = if parseE l = 0 then ticketV c n else ticketV 0 0 := by rw [parseT, ← hv, ← hq, ← hc, ← hn]
      have HEP := Calm.hid ep
      have HET := Calm.hid et
      have hcu : c < 18446744073709551616 := by omega
      clear hv hc hq hn hr hd ep et hall
      by_cases hrd : r = d
      · have hnr : ((r : Int) != (d : Int)) = false := by simp; omega
        obtain ⟨m, hm⟩ : ∃ m, m = mayN c n := ⟨_, rfl⟩
        have HM := Calm.hid hm
        cases m
        · have HE : Hid (parseV l = .tuple #[ticketV 0 0, .int .i64 1]) := by
            have e : parseE l = 1 := by rw [HEP.out, if_neg (by simp [hrd]), if_pos hm.symm]
            show parseV l = _
            rw [parseV, HET.out, e]; rfl
          clear hm
          go_enter Tryd.func12, Tryd.ntmps12
          go_wp2_with fail
          rw [HS.out]
          refine (value_any l hl _).mono ?_
          rintro e w2 ⟨rfl, hb2⟩
          rw [HVO.out, ← HS.out]
          have HZ := Calm.hid (HZ0.out.below hb2)
          have HB2 := Calm.hid (HB0.out.trans (hb2.mono HB0.out.size))
          clear hb2
          go_wp2_with (first | (go_at_call 15; refine (may_any c n _).mono ?_; rintro e w' ⟨rfl, rfl⟩; rw [← HM.out]) | (refine wpList_store_rw rfl 24 (.tmp 2) (.tmp 43) rfl w.heap.size [.int .u8 0, .int .u64 0] rfl rfl 24 _ HZ.out (by kernel_rfl) rfl (one2 _ _ rfl rfl) ?_; intro w9 hr9 ht9; have HR9 := Calm.hid hr9; have HB9 : Hid (Below w.heap.size w w9) := ((Turns.of_below HB2.out).step ht9 (R := fun _ => False) (fun k hk e => by omega)).below (fun _ _ h => h); clear hr9 ht9))
          rw [HE.out]
          exact bodyPost_ret (ret_ticket rfl rfl HR9.out rfl) rfl ⟨rfl, HB9.out⟩
        · have hc8 := (mayN_spec hm.symm).1
          have HE : Hid (parseV l = .tuple #[ticketV c n, .int .i64 0]) := by
            have e : parseE l = 0 := by rw [HEP.out, if_neg (by simp [hrd]), if_neg (by rw [← hm]; simp)]
            show parseV l = _
            rw [parseV, HET.out, e]; rfl
          have hc256 : (c : Int) % 256 = (c : Int) := by omega
          clear hm hce
          go_enter Tryd.func12, Tryd.ntmps12
          go_wp2_with fail
          rw [HS.out]
          refine (value_any l hl _).mono ?_
          rintro e w2 ⟨rfl, hb2⟩
          rw [HVO.out, ← HS.out]
          have HZ := Calm.hid (HZ0.out.below hb2)
          have HB2 := Calm.hid (HB0.out.trans (hb2.mono HB0.out.size))
          clear hb2
          go_wp2_with (first | (go_at_call 15; refine (may_any c n _).mono ?_; rintro e w' ⟨rfl, rfl⟩; rw [← HM.out]) | (refine wpList_store_rw rfl 24 (.tmp 2) (.tmp 25) rfl w.heap.size [.int .u8 c, .int .u64 n] rfl rfl 24 _ HZ.out (by kernel_rfl) rfl (one2 _ _ rfl rfl) ?_; intro w9 hr9 ht9; have HR9 := Calm.hid hr9; have HB9 : Hid (Below w.heap.size w w9) := ((Turns.of_below HB2.out).step ht9 (R := fun _ => False) (fun k hk e => by omega)).below (fun _ _ h => h); clear hr9 ht9))
          rw [HE.out]
          exact bodyPost_ret (ret_ticket rfl rfl HR9.out rfl) rfl ⟨rfl, HB9.out⟩
      · have hnr : ((r : Int) != (d : Int)) = true := by simp; omega
        have HE : Hid (parseV l = .tuple #[ticketV 0 0, .int .i64 70]) := by
          have e : parseE l = 70 := by rw [HEP.out, if_pos hrd]
          show parseV l = _
          rw [parseV, HET.out, e]; rfl
        go_enter Tryd.func12, Tryd.ntmps12
        go_wp2_with fail
        rw [HS.out]
        refine (value_any l hl _).mono ?_
        rintro e w2 ⟨rfl, hb2⟩
        rw [HVO.out, ← HS.out]
        have HZ := Calm.hid (HZ0.out.below hb2)
        have HB2 := Calm.hid (HB0.out.trans (hb2.mono HB0.out.size))
        clear hb2
        go_wp2_with (refine wpList_store_rw rfl 24 (.tmp 2) (.tmp 37) rfl w.heap.size [.int .u8 0, .int .u64 0] rfl rfl 24 _ HZ.out (by kernel_rfl) rfl (one2 _ _ rfl rfl) ?_; intro w9 hr9 ht9; have HR9 := Calm.hid hr9; have HB9 : Hid (Below w.heap.size w w9) := ((Turns.of_below HB2.out).step ht9 (R := fun _ => False) (fun k hk e => by omega)).below (fun _ _ h => h); clear hr9 ht9)
        rw [HE.out]
        exact bodyPost_ret (ret_ticket rfl rfl HR9.out rfl) rfl ⟨rfl, HB9.out⟩
  · have hne : ((l.length : Int) != 14) = true := by simp; omega
    have HE : Hid (parseV l = .tuple #[ticketV 0 0, .int .i64 90]) := by
      have e : parseE l = 90 := by rw [parseE, if_pos h14]
      show parseV l = _
      rw [parseV, parseT, e]; rfl
    have HZ := HZ0
    have HB2 := HB0
    go_enter Tryd.func12, Tryd.ntmps12
    go_wp2_with (refine wpList_store_rw rfl 24 (.tmp 2) (.tmp 11) rfl w.heap.size [.int .u8 0, .int .u64 0] rfl rfl 24 _ HZ.out (by kernel_rfl) rfl (one2 _ _ rfl rfl) ?_; intro w9 hr9 ht9; have HR9 := Calm.hid hr9; have HB9 : Hid (Below w.heap.size w w9) := ((Turns.of_below HB2.out).step ht9 (R := fun _ => False) (fun k hk e => by omega)).below (fun _ _ h => h); clear hr9 ht9)
    rw [HE.out]
    exact bodyPost_ret (ret_ticket rfl rfl HR9.out rfl) rfl ⟨rfl, HB9.out⟩
end Go.Proofs.YtmpcknjmdealgaaDoor
