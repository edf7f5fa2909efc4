/-
  A pen's Write and its Sum; mac.Of is the mac.
-/
import Derived.Test.YtpbahoapjkmcjaaDoorPenNew
namespace Go.Proofs.YtpbahoapjkmcjaaDoor
open Go.RowKit Go.Sha Go.Calm

theorem penWrite_nil (v : Value) (w : World) : Calls Tryd.prog 23 #[.pointer none, v] w fun en w' => en = .returned (.tuple #[]) ∧ w = w' := by
  go_enter Tryd.func23, Tryd.ntmps23
  go_wp2
  go_end0
  exact ⟨rfl, rfl⟩
theorem IsPen.below {w w' : World} {base pb hb ob : Nat} {left : Value} {o m : List UInt8} (h : IsPen w base pb hb ob left o m) (k : Below w.heap.size w w') : IsPen w' base pb hb ob left o m :=
  ⟨h.row.below k, h.hash.below k, h.out.below k, h.len, h.pb_, h.hb_, h.ob_, h.left_, h.ph, h.po, h.ho, h.pl, h.ol⟩
theorem penWrite_any (base pb hb ob : Nat) (left : Value) (o m b : List UInt8) (n : Nat) (p : Option Addr) (cap : Nat) (w : World) (h : IsPen w base pb hb ob left o m) (hs : BytesOf w p n cap b) (hlen : m.length + b.length < 70368744177664)
    (hne : ∀ ad, p = some ad → 0 < b.length → ad.block ≠ hb) (hK : HasK w) (h0 : 0 < base) :
    Calls Tryd.prog 23 #[.pointer (some ⟨pb, 0, none⟩), .slice p n cap] w fun en w' =>
      en = .returned (.tuple #[]) ∧ ∃ left', IsPen w' base pb hb ob left' o (m ++ b) ∧ Turns (fun k => k = hb ∨ left.ownBlock = some k) w w' ∧ (∀ k, left'.ownBlock = some k → w.heap.size ≤ k) := by
  have H := Calm.hid h
  have HS := Calm.hid hs
  have HN := Calm.hid hne
  have HK := Calm.hid hK
  have cp : w.cell? ⟨pb, 0, none⟩ = some (.pointer (some ⟨hb, 0, none⟩)) := h.row.cell rfl
  clear h hs hne hK
  go_enter Tryd.func23, Tryd.ntmps23
  go_wp2_with fail
  refine (write_n hb left m b n p cap w H.out.hash HS.out hlen HN.out HK.out (by have := H.out.hb_; omega)).mono ?_
  rintro en w2 ⟨rfl, left2, hh2, ht2, hl2⟩
  have HH2 := Calm.hid hh2
  have HT2 := Calm.hid ht2
  have HL2 := Calm.hid hl2
  clear hh2 ht2 hl2 cp
  go_wp2
  go_end0
  refine ⟨rfl, left2, ?_, HT2.out, HL2.out⟩
  have h1 := H.out.row.lt
  have h2 := H.out.out.lt
  have h3 := H.out.hb_
  have h4 := H.out.hash.row.lt
  refine ⟨H.out.row.turns HT2.out (fun e => ?_), HH2.out, H.out.out.turns HT2.out (fun e => ?_), H.out.len, H.out.pb_, H.out.hb_, H.out.ob_, fun k hk => by have := HL2.out k hk; omega, H.out.ph, H.out.po, H.out.ho, fun e => by have := HL2.out _ e; omega, fun e => by have := HL2.out _ e; omega⟩
  · rcases e with e | e
    · exact H.out.ph e
    · exact H.out.pl e
  · rcases e with e | e
    · exact H.out.ho e.symm
    · exact H.out.ol e

set_option maxRecDepth 100000 in
theorem penSum_nil (w : World) : Calls Tryd.prog 24 #[.pointer none] w fun en w' => en = .returned (.agg (arr zero32)) ∧ Below w.heap.size w w' := by
  go_enter Tryd.func24, Tryd.ntmps24
  go_wp2_with (first
    | refine wpList_build_to rfl 25 _ rfl (arr zero32) (by kernel_rfl) ?_
    | (refine wpList_store_rw rfl 25 (.tmp 2) (.tmp 6) rfl w.heap.size (zero32.map bv) rfl rfl 25 _ (Rw.new w _ 25) (by kernel_rfl) rfl (BytesOf.one _) ?_; intro w1 hr1 ht1; refine wpList_nil ?_))
  exact bodyPost_ret (results_cell_rw rfl rfl hr1 Tryd.underlying25 (by kernel_rfl)) rfl ⟨rfl, new_stored ht1⟩

set_option maxRecDepth 100000 in
set_option maxHeartbeats 1000000 in
theorem penSum_any (base pb hb ob : Nat) (left : Value) (o m : List UInt8) (w : World) (h : IsPen w base pb hb ob left o m) (hlen : m.length < 35184372088832) (hK : HasK w) :
    Calls Tryd.prog 24 #[.pointer (some ⟨pb, 0, none⟩)] w fun en w' => en = .returned (.agg (arr (digest (o ++ digest m)))) ∧ Below w.heap.size w w' := by
  obtain ⟨i0, hi0, hz0, hz1, hz2⟩ := info_parts Tryd.info5
  have H := Calm.hid h
  have HK := Calm.hid hK
  have hw1 : ∀ a : Array Value, (w.alloc (.cells a 25)).cell? ⟨pb, 0, none⟩ = some (.pointer (some ⟨hb, 0, none⟩)) := fun a => (h.row.alloc _).cell rfl
  clear h hK
  go_enter Tryd.func24, Tryd.ntmps24
  go_wp2_with fail
  refine (sum_any hb left m _ (H.out.hash.below ((Below.refl _ _).alloc (Nat.le_refl _) _)) hlen (HK.out.below ((Below.refl _ _).alloc (Nat.le_refl _) _))).mono ?_
  rintro en w2 ⟨rfl, hb2⟩
  have hres2 : Rw w2 w.heap.size (zero32.map bv) 25 := (Rw.new w _ 25).below hb2
  have hB2 : Below w.heap.size w w2 := ((Below.refl _ _).alloc (Nat.le_refl _) _).trans (hb2.mono (by simp))
  have HRES2 := Calm.hid hres2
  have HB2 := Calm.hid hB2
  clear hb2 hres2 hB2 hw1
  have HZ2 : Hid (Rw (w2.alloc (.cells #[.int .u8 0, .int .u8 0, .int .u8 0, .int .u8 0, .int .u8 0, .int .u8 0, .int .u8 0, .int .u8 0, .int .u8 0, .int .u8 0, .int .u8 0, .int .u8 0, .int .u8 0, .int .u8 0, .int .u8 0, .int .u8 0, .int .u8 0, .int .u8 0, .int .u8 0, .int .u8 0, .int .u8 0, .int .u8 0, .int .u8 0, .int .u8 0, .int .u8 0, .int .u8 0, .int .u8 0, .int .u8 0, .int .u8 0, .int .u8 0, .int .u8 0, .int .u8 0] 25)) w2.heap.size (zero32.map bv) 25) := Rw.new w2 _ 25
  go_wp2_with (refine wpList_store_rw rfl 25 (.tmp 3) (.tmp 11) rfl w2.heap.size ((digest m).map bv) rfl rfl 25 _ HZ2.out (by rw [List.length_map, digest_length]; kernel_rfl) (by rw [List.length_map, List.length_map, digest_length]; rfl) (BytesOf.one _) ?_; intro w3 hr3 ht3; refine wpList_nil ?_)
  have HRES3 := Calm.hid (HRES2.out.below (new_stored ht3))
  have HB3 := Calm.hid (HB2.out.trans ((new_stored ht3).mono HB2.out.size))
  have HD3 := Calm.hid hr3
  clear hr3 ht3
  have H3 := Calm.hid (H.out.below HB3.out)
  have cq : ∀ q : KeptB w.heap.size w3, q.world.cell? ⟨pb, 1, none⟩ = some (.slice (some ⟨ob, 0, none⟩) 64 64) := fun q =>
    (H.out.row.below (HB3.out.trans q.below)).cell rfl
  go_frame
  refine Calm.region_sb w.heap.size [true, true, true, true, false, true, false, false, false] (by kernel_rfl) (by kernel_rfl) ?_
  simp only [Calm.heads, Calm.tails]
  repeat (go_big_quiet_step (fail))
  refine wpQuiet_nil ?_
  clear cq
  have HO3 : Hid (BytesOf w3.drew (some ⟨ob, 0, none⟩) 64 64 o) := (rw_bytes H3.out.out H3.out.len (Nat.le_refl _) (by decide)).drewN 1
  have HOL : Hid (o.length = 64) := H.out.len
  refine wpC_step (wpList_append_any rfl (.const (.slice none 0 0)) (.tmp 15) 22 rfl w3.heap.size 5 i0 (.int .u8 0) 1 1 Tryd.underlying22 hi0 hz0 hz1 hz2 rfl (by decide) _ _ _ rfl (World.ownsRow_nil _ _ _ _) (some ⟨ob, 0, none⟩) 64 64 (o.map bv) rfl (by rw [List.length_map, HOL.out]) HO3.out.nil HO3.out.news (BytesOf.one _) ?_ ?_ ?_ ?_)
  · simp [maxLen]
  · simp
  · exact Nat.le_refl _
  intro v4 w4 hown4 hg4
  have hb4 : Below w3.heap.size w3 w4 := (show Below w3.heap.size w3 w3.drew from (Below.refl _ _).drew).trans (below_nil hg4)
  have hown4' : w4.ownsRow w3.heap.size 5 1 v4 o.length (o.map bv) := by rw [HOL.out]; simpa using hown4
  obtain ⟨p4, c4, hv4, hby4, _⟩ := BytesOf.own hown4'
  have HO4 := Calm.hid hown4'
  have HB4 := Calm.hid hb4
  have HD4 := Calm.hid (HD3.out.below hb4)
  clear hown4 hg4 hb4 hown4' hby4
  have hs3 := HB3.out.size
  refine wpList_nil ⟨rfl, rfl, ⟨⟨_, HB4.out.mono hs3⟩, rfl⟩, ?_⟩
  subst hv4
  have HX4 : Hid (BytesOf w4 (some ⟨w2.heap.size, 0, none⟩) 32 32 (digest m)) := rw_bytes HD4.out (digest_length _) (Nat.le_refl _) (by decide)
  refine wpC_step (wpList_append_any rfl (.tmp 16) (.tmp 17) 22 rfl w3.heap.size 5 i0 (.int .u8 0) 1 1 Tryd.underlying22 hi0 hz0 hz1 hz2 rfl (by decide) _ _ _ rfl HO4.out (some ⟨w2.heap.size, 0, none⟩) 32 32 ((digest m).map bv) rfl (by rw [List.length_map, digest_length]) HX4.out.nil HX4.out.news (BytesOf.one _) ?_ ?_ ?_ ?_)
  · rw [HOL.out]; simp [maxLen]
  · rw [HOL.out]; simp
  · exact HB4.out.size
  intro v5 w5 hown5 hg5
  have hb5 : Below w3.heap.size w4 w5 := ⟨hg5.os, hg5.tape, hg5.output, hg5.size, fun k hk => hg5.block k (Nat.lt_of_lt_of_le hk HB4.out.size) (fun e => by have := (HO4.out.lt k e.symm).1; omega)⟩
  have hown5' : w5.ownsRow w3.heap.size 5 1 v5 (o ++ digest m).length ((o ++ digest m).map bv) := by rw [List.length_append, digest_length, List.map_append]; exact hown5
  obtain ⟨p5, c5, hv5, hby5, _⟩ := BytesOf.own hown5'
  have HB5 := Calm.hid (HB4.out.trans hb5)
  have HL5 : Hid ((o ++ digest m).length = 96) := by show (o ++ digest m).length = 96; rw [List.length_append, digest_length, HOL.out]
  rw [HL5.out] at hv5 hby5
  have HY5 := Calm.hid hby5
  clear hown5 hg5 hb5 hown5' hby5
  refine wpList_nil ⟨rfl, rfl, ⟨⟨_, HB5.out.mono hs3⟩, rfl⟩, ?_⟩
  subst hv5
  refine wpC_step ?_
  go_wp2_with fail
  refine (of_n (o ++ digest m) _ p5 c5 w5 HY5.out (by rw [HL5.out]; omega) (HK.out.below (HB3.out.trans (HB5.out.mono hs3)))).mono ?_
  rintro en w6 ⟨rfl, hb6⟩
  have HB6 := Calm.hid ((HB5.out.mono hs3).trans (hb6.mono (Nat.le_trans hs3 HB5.out.size)))
  have HR6 := Calm.hid (HRES3.out.below (HB5.out.trans (hb6.mono HB5.out.size)))
  clear hb6
  go_wp2
  refine ⟨⟨⟨w6, HB6.out⟩, rfl⟩, ?_⟩
  refine wpC_step (wpList_store_rw rfl 25 (.tmp 2) (.tmp 19) rfl w.heap.size ((digest (o ++ digest m)).map bv) rfl rfl 25 _ HR6.out (by rw [List.length_map, digest_length]; kernel_rfl) (by rw [List.length_map, List.length_map, digest_length]; rfl) (BytesOf.one _) ?_)
  intro w9 hr9 ht9
  have hb9 : Below w.heap.size w3 w9 := HB6.out.trans ((ht9.mono (R := fun k => w.heap.size ≤ k) (fun k _ e => Nat.le_of_eq e.symm)) |> fun h => ⟨h.os, h.tape, h.output, h.size, fun k hk => h.block k (Nat.lt_of_lt_of_le (Nat.lt_of_lt_of_le hk hs3) HB6.out.size) (by omega)⟩)
  refine wpList_nil ⟨rfl, rfl, ⟨⟨w9, hb9⟩, rfl⟩, ?_⟩
  refine wpC_nil ?_
  go_frame
  go_wp2
  exact bodyPost_ret (results_cell_rw rfl rfl hr9 Tryd.underlying25 (by rw [List.length_map, digest_length]; kernel_rfl)) rfl ⟨rfl, HB3.out.trans hb9⟩
end Go.Proofs.YtpbahoapjkmcjaaDoor
