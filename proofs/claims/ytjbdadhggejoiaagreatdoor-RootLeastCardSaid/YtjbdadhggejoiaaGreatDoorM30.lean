/- roots: the principal root.
   roots: the root of a value, as a ball; magnitudes.
   roots of balls: of what is no ball; of -1.
   magnitudes: Hypot and Abs of 4.
   roots of balls: of 4, 1. -/
import Derived.Test.YtjbdadhggejoiaaGreatDoorM29
import Derived.Test.YtjbdadhggejoiaaGreatDoorM28

namespace Go.Proofs.YtjbdadhggejoiaaGreatDoor
open Go.RowKit
set_option maxRecDepth 100000
attribute [local go_sem] run_frombits run_bits store_f store_c run_neg

/-- a part is told -/
def PartIs (x y mode r : Nat) : Prop := ∀ W : World, Tab W → Calls Tryz.prog 19 #[.float .f64 x, .float .f64 y, .int .i64 mode] W fun e w' => e = .returned (.float .f64 r) ∧ W.grownBy w' none
set_option maxHeartbeats 2000000 in
theorem rprin_plus (x y nx mode a c : Nat) (w : World) (hx : Fin64 x) (hy : Fin64 y) (hs : fneg y = false) (hz : (Ieee.double.order x 0 == some .eq) = false) (hnx : Op.negFloat .f64 x = nx) (hmode : 1 ≤ mode ∧ mode ≤ 3) (h1 : PartIs x y mode a) (h2 : PartIs nx y mode c) (hT : Tab w) :
    Calls Tryz.prog 5 #[.complex .f64 x y, .int .i64 mode] w fun e w' => e = .returned (.tuple #[.complex .f64 a c, .int .i64 0]) ∧ w.grownBy w' none := by
  have g1 : (FloatKind.f64.format.order x 0 == some Ordering.eq) = false := hz
  have H1 := Lib.hid (fun W => isnan_calls x W hx)
  have H2 := Lib.hid (fun W => isnan_calls y W hy)
  have H3 := Lib.hid (fun W => isinf_calls x W hx)
  have H4 := Lib.hid (fun W => isinf_calls y W hy)
  have hsb := fun W => signbit_calls y W hy.1
  rw [hs] at hsb
  have H5 := Lib.hid hsb
  have H6 := Lib.hid h1
  have H7 := Lib.hid h2
  have HT := Lib.hid hT
  clear hsb hs hz h1 h2 hT hx hy
  go_enter Tryz.func5, Tryz.ntmps5
  go_wp2_with fail
  refine (H1.out _).mono ?_
  rintro e3 w1 ⟨rfl, rfl⟩
  go_wp2_with fail
  refine (H2.out _).mono ?_
  rintro e3 w1 ⟨rfl, rfl⟩
  go_wp2_with fail
  refine (H3.out _).mono ?_
  rintro e3 w1 ⟨rfl, rfl⟩
  go_wp2_with fail
  refine (H4.out _).mono ?_
  rintro e3 w1 ⟨rfl, rfl⟩
  go_wp2_with fail
  refine (H6.out _ HT.out).mono ?_
  rintro e3 w1 ⟨rfl, hg1⟩
  have HT1 := Lib.hid (HT.out.ext hg1)
  have HG1 := Lib.hid hg1
  clear hg1
  go_wp2_with fail
  refine (H5.out _).mono ?_
  rintro e3 w2 ⟨rfl, rfl⟩
  go_wp2_with fail
  refine (H7.out _ HT1.out).mono ?_
  rintro e3 w3 ⟨rfl, hg2⟩
  have HG2 := Lib.hid (grown_trans HG1.out hg2)
  clear hg2
  go_wp2
  go_ret2
  exact ⟨rfl, HG2.out⟩
set_option maxHeartbeats 2000000 in
theorem rprin_minus (x y nx a c nc : Nat) (w : World) (hx : Fin64 x) (hy : Fin64 y) (hs : fneg y = true) (hz : (Ieee.double.order x 0 == some .eq) = false) (hnx : Op.negFloat .f64 x = nx) (hnc : Op.negFloat .f64 c = nc) (h1 : PartIs x y 2 a) (h2 : PartIs nx y 2 c) (hT : Tab w) :
    Calls Tryz.prog 5 #[.complex .f64 x y, .int .i64 2] w fun e w' => e = .returned (.tuple #[.complex .f64 a nc, .int .i64 0]) ∧ w.grownBy w' none := by
  have g1 : (FloatKind.f64.format.order x 0 == some Ordering.eq) = false := hz
  have H1 := Lib.hid (fun W => isnan_calls x W hx)
  have H2 := Lib.hid (fun W => isnan_calls y W hy)
  have H3 := Lib.hid (fun W => isinf_calls x W hx)
  have H4 := Lib.hid (fun W => isinf_calls y W hy)
  have hsb := fun W => signbit_calls y W hy.1
  rw [hs] at hsb
  have H5 := Lib.hid hsb
  have H6 := Lib.hid h1
  have H7 := Lib.hid h2
  have H8 := Lib.hid (fun W => ropp_calls W)
  have HT := Lib.hid hT
  clear hsb hs hz h1 h2 hT hx hy
  go_enter Tryz.func5, Tryz.ntmps5
  go_wp2_with fail
  refine (H1.out _).mono ?_
  rintro e3 w1 ⟨rfl, rfl⟩
  go_wp2_with fail
  refine (H2.out _).mono ?_
  rintro e3 w1 ⟨rfl, rfl⟩
  go_wp2_with fail
  refine (H3.out _).mono ?_
  rintro e3 w1 ⟨rfl, rfl⟩
  go_wp2_with fail
  refine (H4.out _).mono ?_
  rintro e3 w1 ⟨rfl, rfl⟩
  go_wp2_with fail
  refine (H6.out _ HT.out).mono ?_
  rintro e3 w1 ⟨rfl, hg1⟩
  have HT1 := Lib.hid (HT.out.ext hg1)
  have HG1 := Lib.hid hg1
  clear hg1
  go_wp2_with fail
  refine (H5.out _).mono ?_
  rintro e3 w2 ⟨rfl, rfl⟩
  go_wp2_with fail
  refine (H8.out _).mono ?_
  rintro e3 w2 ⟨rfl, rfl⟩
  go_wp2_with fail
  refine (H7.out _ HT1.out).mono ?_
  rintro e3 w3 ⟨rfl, hg2⟩
  have HG2 := Lib.hid (grown_trans HG1.out hg2)
  clear hg2
  go_wp2
  go_ret2
  exact ⟨rfl, HG2.out⟩

-- the values that are tried: 4, -4, -1, 3 + 4i
theorem sq4 : SqOk (ofF 4616189618054758400).m (2 ^ 64) (ofF 4616189618054758400).e := ⟨by decide +kernel, by decide +kernel, by decide +kernel, by decide, by decide +kernel, by decide +kernel⟩
theorem sq1 : SqOk (ofF 4607182418800017408).m (2 ^ 64) (ofF 4607182418800017408).e := ⟨by decide +kernel, by decide +kernel, by decide +kernel, by decide, by decide +kernel, by decide +kernel⟩
theorem part4 (y mode : Nat) (hy : (Ieee.double.order y 0 == some .eq) = true) (hmode : 1 ≤ mode ∧ mode ≤ 3) (he : sqrtF (ofF 4616189618054758400).m (2 ^ 64) (ofF 4616189618054758400).e mode = 4611686018427387904) : PartIs 4616189618054758400 y mode 4611686018427387904 := fun W hT => by
  have h := rpart_pos 4616189618054758400 y (2 ^ 64) mode W (by decide) (by decide) hy sq4 hmode hT
  rwa [he] at h
theorem partm (x y mode : Nat) (hx : Ieee.double.order x 0 = some .lt) (hy : (Ieee.double.order y 0 == some .eq) = true) (hmode : 1 ≤ mode ∧ mode ≤ 3) : PartIs x y mode 0 := fun W hT => rpart_neg x y mode W hx hy hmode hT
theorem part1 (mode : Nat) (hmode : 1 ≤ mode ∧ mode ≤ 3) (he : sqrtF (ofF 4607182418800017408).m (2 ^ 64) (ofF 4607182418800017408).e mode = 4607182418800017408) : PartIs 4607182418800017408 0 mode 4607182418800017408 := fun W hT => by
  have h := rpart_pos 4607182418800017408 0 (2 ^ 64) mode W (by decide) (by decide) rfl sq1 hmode hT
  rwa [he] at h
def d9 : Dy := ⟨false, 9, 0⟩
def d4 : Dy := ⟨false, 1, 2⟩
theorem pok3 : PartOk 4613937818241073152 4616189618054758400 d3 d4 d9 d16 d25 := ⟨⟨by decide, by decide⟩, ⟨by decide, by decide⟩, rfl, by decide +kernel, by decide +kernel, by decide +kernel, by decide +kernel, by decide +kernel, ok_of (by decide) (by decide +kernel) (by decide), ok_of (by decide) (by decide +kernel) (by decide), .inr (.inr (by decide +kernel)), ok_of (by decide) (by decide +kernel) (by decide)⟩
theorem pokm3 : PartOk 13837309855095848960 4616189618054758400 dm3 d4 d9 d16 d25 := ⟨⟨by decide, by decide⟩, ⟨by decide, by decide⟩, rfl, by decide +kernel, by decide +kernel, by decide +kernel, by decide +kernel, by decide +kernel, ok_of (by decide) (by decide +kernel) (by decide), ok_of (by decide) (by decide +kernel) (by decide), .inr (.inr (by decide +kernel)), ok_of (by decide) (by decide +kernel) (by decide)⟩
/-- of -4 - 0i: -2i -/
theorem prin_m4 (w : World) (hT : Tab w) : Calls Tryz.prog 5 #[.complex .f64 13839561654909534208 9223372036854775808, .int .i64 2] w fun e w' => e = .returned (.tuple #[.complex .f64 0 13835058055282163712, .int .i64 0]) ∧ w.grownBy w' none :=
  rprin_minus 13839561654909534208 9223372036854775808 4616189618054758400 0 4611686018427387904 13835058055282163712 w ⟨by decide, by decide⟩ ⟨by decide, by decide⟩ rfl rfl rfl rfl (partm _ _ 2 rfl rfl (by decide)) (part4 _ 2 rfl (by decide) (by decide +kernel)) hT
/-- of 3 + 4i: 2 + i -/
theorem prin_34 (w : World) (hT : Tab w) : Calls Tryz.prog 5 #[.complex .f64 4613937818241073152 4616189618054758400, .int .i64 2] w fun e w' => e = .returned (.tuple #[.complex .f64 4611686018427387904 4607182418800017408, .int .i64 0]) ∧ w.grownBy w' none :=
  rprin_plus 4613937818241073152 4616189618054758400 13837309855095848960 2 4611686018427387904 4607182418800017408 w ⟨by decide, by decide⟩ ⟨by decide, by decide⟩ rfl rfl rfl (by decide) (fun W h => rpart_off _ _ d3 d4 d9 d16 d25 _ _ _ _ _ _ _ W pok3 near3 h) (fun W h => rpart_off _ _ dm3 d4 d9 d16 d25 _ _ _ _ _ _ _ W pokm3 nearm3 h) hT
/-- of 4: 2 -/
theorem prin_4 (mode : Nat) (w : World) (hmode : 1 ≤ mode ∧ mode ≤ 3) (hT : Tab w) : Calls Tryz.prog 5 #[.complex .f64 4616189618054758400 0, .int .i64 mode] w fun e w' => e = .returned (.tuple #[.complex .f64 4611686018427387904 0, .int .i64 0]) ∧ w.grownBy w' none :=
  rprin_plus 4616189618054758400 0 13839561654909534208 mode 4611686018427387904 0 w ⟨by decide, by decide⟩ ⟨by decide, by decide⟩ rfl rfl rfl hmode (part4 0 mode rfl hmode (by rcases (show mode = 1 ∨ mode = 2 ∨ mode = 3 by omega) with rfl | rfl | rfl <;> decide +kernel)) (partm _ _ mode rfl rfl hmode) hT
/-- of -1 + 0i: i -/
theorem prin_m1 (mode : Nat) (w : World) (hmode : 1 ≤ mode ∧ mode ≤ 3) (hT : Tab w) : Calls Tryz.prog 5 #[.complex .f64 13830554455654793216 0, .int .i64 mode] w fun e w' => e = .returned (.tuple #[.complex .f64 0 4607182418800017408, .int .i64 0]) ∧ w.grownBy w' none :=
  rprin_plus 13830554455654793216 0 4607182418800017408 mode 0 4607182418800017408 w ⟨by decide, by decide⟩ ⟨by decide, by decide⟩ rfl rfl rfl hmode (partm _ _ mode rfl rfl hmode) (part1 mode hmode (by rcases (show mode = 1 ∨ mode = 2 ∨ mode = 3 by omega) with rfl | rfl | rfl <;> decide +kernel)) hT
end Go.Proofs.YtjbdadhggejoiaaGreatDoor

namespace Go.Proofs.YtjbdadhggejoiaaGreatDoor
open Go.RowKit
set_option maxRecDepth 100000
attribute [local go_sem] run_frombits run_bits store_f store_c run_neg

def PrinIs (x y mode a c : Nat) : Prop := ∀ W : World, Tab W → Calls Tryz.prog 5 #[.complex .f64 x y, .int .i64 mode] W fun e w' => e = .returned (.tuple #[.complex .f64 a c, .int .i64 0]) ∧ W.grownBy w' none
def SubIs (a b r : Nat) : Prop := ∀ W : World, Tab W → Calls Tryz.prog 57 #[.float .f64 a, .float .f64 b, .int .i64 3] W fun e w' => e = .returned (.float .f64 r) ∧ W.grownBy w' none
set_option maxHeartbeats 2000000 in
theorem rpoint_calls (x y a c : Nat) (w : World) (h1 : PrinIs x y 1 a c) (h2 : PrinIs x y 2 a c) (h3 : PrinIs x y 3 a c) (ha : SubIs a a 0) (hc : SubIs c c 0) (hT : Tab w) :
    Calls Tryz.prog 35 #[.complex .f64 x y] w fun e w' => e = .returned (BV a c 0) ∧ w.grownBy w' none := by
  have hz := fun W (h : Tab W) => radd_calls 0 0 3 W ⟨⟨by decide, by decide⟩, ⟨by decide, by decide⟩, .inl (by decide +kernel), .inl ⟨by decide +kernel, by decide +kernel, by decide +kernel⟩, by decide, fun _ => ⟨rfl, rfl⟩, fun h => absurd (by decide +kernel) h⟩ h
  rw [show raddF 0 0 3 = 0 by decide +kernel] at hz
  have HZ := Lib.hid hz
  have H1 := Lib.hid h1
  have H2 := Lib.hid h2
  have H3 := Lib.hid h3
  have HA := Lib.hid ha
  have HC := Lib.hid hc
  clear hz h1 h2 h3 ha hc
  unfold BV
  go_enter Tryz.func35, Tryz.ntmps35
  obtain ⟨w2, hw2⟩ : ∃ w2, w2 = w.alloc (.cells #[.complex .f64 0 0, .float .f64 0] 39) := ⟨_, rfl⟩
  have hg2 : w.grownBy w2 none := by rw [hw2]; exact grown_alloc _ _ _
  have KB : Hid (BDuo w2 w.heap.size) := by rw [hw2]; exact ⟨_, _, _, _, heap_alloc_new w _⟩
  have HW := Lib.hid hw2
  have HT0 := Lib.hid (hT.ext hg2)
  have HG0 := Lib.hid hg2
  clear hw2 hg2 hT
  go_upto_region 1 with fail
  rw [← HW.out]
  go_wp2_with fail
  refine (H2.out _ HT0.out).mono ?_
  rintro e3 w3 ⟨rfl, hg⟩
  have HT3 := Lib.hid (HT0.out.ext hg)
  have HG3 := Lib.hid hg
  clear hg
  go_wp2_with fail
  refine (H1.out _ HT3.out).mono ?_
  rintro e3 w4 ⟨rfl, hg⟩
  have HT4 := Lib.hid (HT3.out.ext hg)
  have HG4 := Lib.hid (grown_trans HG3.out hg)
  clear hg
  go_wp2_with fail
  refine (H3.out _ HT4.out).mono ?_
  rintro e3 w5 ⟨rfl, hg⟩
  have HT5 := Lib.hid (HT4.out.ext hg)
  have HG5 := Lib.hid (grown_trans HG4.out hg)
  clear hg
  go_wp2_with fail
  refine (HA.out _ HT5.out).mono ?_
  rintro e3 w6 ⟨rfl, hg⟩
  have HT6 := Lib.hid (HT5.out.ext hg)
  have HG6 := Lib.hid (grown_trans HG5.out hg)
  clear hg
  go_wp2_with fail
  refine (HC.out _ HT6.out).mono ?_
  rintro e3 w7 ⟨rfl, hg⟩
  have HT7 := Lib.hid (HT6.out.ext hg)
  have HG7 := Lib.hid (grown_trans HG6.out hg)
  clear hg
  go_wp2_with fail
  refine (HZ.out _ HT7.out).mono ?_
  rintro e3 w8 ⟨rfl, hg⟩
  have HG8 := grown_trans HG7.out hg
  obtain ⟨p1, p2, p3, y0, y1, z0, z1⟩ := (KB.out.grown HG8).open
  have HF := Lib.hid (grown_res (grown_trans HG0.out HG8) (Nat.le_refl _) (set2_grown (r := w.heap.size) (a := .complex .f64 a c) (b := .float .f64 0)))
  clear hg HG8
  go_wp2
  refine bodyPost_ret (v := .agg #[.complex .f64 a c, .float .f64 0]) ?_ rfl ⟨rfl, HF.out⟩
  simp [results, Tryz.results35, go_sem, *]
theorem sub0 : SubIs 0 0 0 := fun W hT => by
  have h := rsub_calls 0 0 9223372036854775808 3 W rfl ⟨⟨by decide, by decide⟩, ⟨by decide, by decide⟩, .inl (by decide +kernel), .inl ⟨by decide +kernel, by decide +kernel, by decide +kernel⟩, by decide, fun _ => ⟨rfl, rfl⟩, fun h => absurd (by decide +kernel) h⟩ hT
  rwa [show raddF 0 9223372036854775808 3 = 0 by decide +kernel] at h
theorem sub1 : SubIs 4607182418800017408 4607182418800017408 0 := fun W hT => by
  have h := rsub_calls 4607182418800017408 4607182418800017408 13830554455654793216 3 W rfl ⟨⟨by decide, by decide⟩, ⟨by decide, by decide⟩, .inr (.inr (by decide +kernel)), .inl ⟨by decide +kernel, by decide +kernel, by decide +kernel⟩, by decide, fun _ => ⟨rfl, rfl⟩, fun h => absurd (by decide +kernel) h⟩ hT
  rwa [show raddF 4607182418800017408 13830554455654793216 3 = 0 by decide +kernel] at h
theorem sub2 : SubIs 4611686018427387904 4611686018427387904 0 := fun W hT => by
  have h := rsub_calls 4611686018427387904 4611686018427387904 13835058055282163712 3 W rfl ⟨⟨by decide, by decide⟩, ⟨by decide, by decide⟩, .inr (.inr (by decide +kernel)), .inl ⟨by decide +kernel, by decide +kernel, by decide +kernel⟩, by decide, fun _ => ⟨rfl, rfl⟩, fun h => absurd (by decide +kernel) h⟩ hT
  rwa [show raddF 4611686018427387904 13835058055282163712 3 = 0 by decide +kernel] at h
/-- the root of -1 + 0i, of 4 -/
theorem point_m1 (w : World) (hT : Tab w) : Calls Tryz.prog 35 #[.complex .f64 13830554455654793216 0] w fun e w' => e = .returned (BV 0 4607182418800017408 0) ∧ w.grownBy w' none :=
  rpoint_calls _ _ 0 4607182418800017408 w (fun W h => prin_m1 1 W (by decide) h) (fun W h => prin_m1 2 W (by decide) h) (fun W h => prin_m1 3 W (by decide) h) sub0 sub1 hT
theorem point_4 (w : World) (hT : Tab w) : Calls Tryz.prog 35 #[.complex .f64 4616189618054758400 0] w fun e w' => e = .returned (BV 4611686018427387904 0 0) ∧ w.grownBy w' none :=
  rpoint_calls _ _ 4611686018427387904 0 w (fun W h => prin_4 1 W (by decide) h) (fun W h => prin_4 2 W (by decide) h) (fun W h => prin_4 3 W (by decide) h) sub2 sub0 hT
end Go.Proofs.YtjbdadhggejoiaaGreatDoor

namespace Go.Proofs.YtjbdadhggejoiaaGreatDoor
open Go.RowKit
set_option maxRecDepth 100000
attribute [local go_sem] run_frombits run_bits store_f store_c run_neg

set_option maxHeartbeats 2000000 in
theorem bsqrt_bad (w : World) : Calls Tryz.prog 14 #[BV 0 0 13830554455654793216] w fun e w' => e = .returned (.tuple #[BV 0 0 0, .int .i64 0, .int .i64 140]) ∧ w.grownBy w' none := by
  have hv := fun W => valid_calls 0 0 13830554455654793216 W ⟨by decide, by decide⟩ ⟨by decide, by decide⟩ ⟨by decide, by decide⟩
  rw [show fneg 13830554455654793216 = true from rfl] at hv
  have HV := Lib.hid hv
  clear hv
  unfold BV at HV ⊢
  go_enter Tryz.func14, Tryz.ntmps14
  go_upto_region 1 with fail
  obtain ⟨w2, hw2⟩ : ∃ w2, w2 = (w.alloc (.cells #[.complex .f64 0 0, .float .f64 13830554455654793216] 39)).alloc (.cells #[.complex .f64 0 0, .float .f64 0] 39) := ⟨_, rfl⟩
  have r0 : w2.heap[w.heap.size]? = some (.cells #[.complex .f64 0 0, .float .f64 13830554455654793216] 39 (0, 0)) := by rw [hw2]; exact heap_old (heap_at rfl)
  have r1 : w2.heap[w.heap.size + 1]? = some (.cells #[.complex .f64 0 0, .float .f64 0] 39 (0, 0)) := by rw [hw2]; exact heap_at (by simp)
  have hg2 : w.grownBy w2 none := by rw [hw2]; exact grown_trans (grown_alloc _ _ _) (grown_alloc _ _ _)
  rw [← hw2]
  obtain ⟨x0, x1⟩ := row2 r0
  have KB : Hid (BDuo w2 (w.heap.size + 1)) := ⟨_, _, _, _, r1⟩
  have HG2 := Lib.hid hg2
  clear hw2 r0 r1 hg2
  go_wp2_with fail
  refine (HV.out _).mono ?_
  rintro e3 w3 ⟨rfl, hg⟩
  have HF := Lib.hid (grown_res (grown_trans HG2.out hg) (Nat.le_succ _) (set2_grown (r := w.heap.size + 1) (a := .complex .f64 0 0) (b := .float .f64 0)))
  obtain ⟨p1, p2, p3, y0, y1, z0, z1⟩ := (KB.out.grown hg).open
  clear hg x0 x1
  go_wp2
  refine bodyPost_ret (v := .tuple #[.agg #[.complex .f64 0 0, .float .f64 0], .int .i64 0, .int .i64 140]) ?_ rfl ⟨rfl, HF.out⟩
  simp [results, Tryz.results14, go_sem, *]
set_option maxHeartbeats 2000000 in
theorem bsqrt_m1 (w : World) (hT : Tab w) : Calls Tryz.prog 14 #[BV 13830554455654793216 0 0] w fun e w' => e = .returned (.tuple #[BV 0 4607182418800017408 0, .int .i64 1, .int .i64 0]) ∧ w.grownBy w' none := by
  have hv := fun W => valid_calls 13830554455654793216 0 0 W ⟨by decide, by decide⟩ ⟨by decide, by decide⟩ ⟨by decide, by decide⟩
  rw [show fneg 0 = false from rfl] at hv
  have HV := Lib.hid hv
  have HP := Lib.hid (fun W (h : Tab W) => point_m1 W h)
  have HS := Lib.hid (fun W => rside_calls W)
  clear hv
  unfold BV at HV HP ⊢
  go_enter Tryz.func14, Tryz.ntmps14
  go_upto_region 1 with fail
  obtain ⟨w2, hw2⟩ : ∃ w2, w2 = (w.alloc (.cells #[.complex .f64 13830554455654793216 0, .float .f64 0] 39)).alloc (.cells #[.complex .f64 0 0, .float .f64 0] 39) := ⟨_, rfl⟩
  have r0 : w2.heap[w.heap.size]? = some (.cells #[.complex .f64 13830554455654793216 0, .float .f64 0] 39 (0, 0)) := by rw [hw2]; exact heap_old (heap_at rfl)
  have r1 : w2.heap[w.heap.size + 1]? = some (.cells #[.complex .f64 0 0, .float .f64 0] 39 (0, 0)) := by rw [hw2]; exact heap_at (by simp)
  have hg2 : w.grownBy w2 none := by rw [hw2]; exact grown_trans (grown_alloc _ _ _) (grown_alloc _ _ _)
  rw [← hw2]
  obtain ⟨x0, x1⟩ := row2 r0
  have hlt : w.heap.size + 1 < w2.heap.size := (Array.getElem?_eq_some_iff.1 r1).1
  have KB : Hid (BDuo w2 (w.heap.size + 1)) := ⟨_, _, _, _, r1⟩
  have HG2 := Lib.hid hg2
  clear hw2 r0 r1 hg2
  go_wp2_with fail
  refine (HV.out _).mono ?_
  rintro e3 w3 ⟨rfl, hg⟩
  obtain ⟨x0, x1⟩ : w3.cell? ⟨w.heap.size, 0, none⟩ = some (.complex .f64 13830554455654793216 0) ∧ w3.cell? ⟨w.heap.size, 1, none⟩ = some (.float .f64 0) := ⟨cell_ext hg x0, cell_ext hg x1⟩
  have HG3 := Lib.hid (grown_trans HG2.out hg)
  have KB3 := Lib.hid (KB.out.grown hg)
  have hs3 := hg.size
  have HT3 := Lib.hid (hT.ext HG3.out)
  have hlt3 : w.heap.size + 1 < w3.heap.size := by omega
  clear hg KB HG2 hT
  go_upto_region 4 with fail
  have K6 : Hid (∀ w' : World, w3.grownBy w' (some (w.heap.size + 1)) → w'.cell? ⟨w.heap.size, 0, none⟩ = some (.complex .f64 13830554455654793216 0) ∧ w'.cell? ⟨w.heap.size, 1, none⟩ = some (.float .f64 0) ∧ w3.grownBy w' (some (w.heap.size + 1))) := fun w' h => ⟨cell_grown h (by omega) (by omega) x0, cell_grown h (by omega) (by omega) x1, h⟩
  go_region_held3 (fun w' : World => w'.cell? ⟨w.heap.size, 0, none⟩ = some (.complex .f64 13830554455654793216 0) ∧ w'.cell? ⟨w.heap.size, 1, none⟩ = some (.float .f64 0) ∧ w3.grownBy w' (some (w.heap.size + 1)))
    (first
      | with_reducible exact K6.out _ (grown_trans (grown_some hGa) set2_grown)
      | with_reducible exact K6.out _ (grown_some hGa)
      | with_reducible exact K6.out _ (grown_some (drew_grown' _)))
    (first
      | (go_at_call 35; refine (HP.out _ (by exact HT3.out)).mono ?_; rintro e3 w4 ⟨rfl, hg⟩; have hGa : w3.grownBy w4 none := grown_trans (drew_grown' _) hg; have KB5 := KB3.out.grown hGa; obtain ⟨p1, p2, p3, y0, y1, z0, z1⟩ := KB5.open; clear hg KB5)
      | (go_at_call 36; refine (HS.out _).mono ?_; rintro e3 w5 ⟨rfl, rfl⟩))
  all_goals
    have HF := Lib.hid (grown_res (grown_trans HG3.out hGa) (by omega) (set2_grown (r := w.heap.size + 1) (a := .complex .f64 0 4607182418800017408) (b := .float .f64 0)))
    go_wp2
    refine bodyPost_ret (v := .tuple #[.agg #[.complex .f64 0 4607182418800017408, .float .f64 0], .int .i64 1, .int .i64 0]) ?_ rfl ⟨rfl, HF.out⟩
    simp [results, Tryz.results14, go_sem, *]
end Go.Proofs.YtjbdadhggejoiaaGreatDoor

namespace Go.Proofs.YtjbdadhggejoiaaGreatDoor
open Go.RowKit
set_option maxRecDepth 100000
attribute [local go_sem] run_frombits run_bits store_f store_c run_neg

structure HypOk (a b : Nat) (p q p2 q2 n : Dy) (r : Nat) : Prop where
  fa : Fin64 a
  fb : Fin64 b
  ea : ofF a = p
  eb : ofF b = q
  s1 : dsqr p = p2
  s2 : dsqr q = q2
  a1 : dadd p2 q2 = n
  o1 : p2.ok
  o2 : q2.ok
  f : notFar p2 q2
  on : n.ok
  nn : n.neg = false
  sq : SqOk n.m r n.e
set_option maxHeartbeats 4000000 in
theorem rhyp_calls (a b mode r : Nat) (p q p2 q2 n : Dy) (w : World) (h : HypOk a b p q p2 q2 n r) (hmode : 1 ≤ mode ∧ mode ≤ 3) (hT : Tab w) :
    Calls Tryz.prog 68 #[.float .f64 a, .float .f64 b, .int .i64 mode] w fun e w' => e = .returned (.float .f64 (sqrtF n.m r n.e mode)) ∧ w.grownBy w' none := by
  obtain ⟨fa, fb, ea, eb, s1, s2, a1, o1, o2, hf, on, nn, sq⟩ := h
  have oa := ofF_ok fa
  have ob := ofF_ok fb
  rw [ea] at oa
  rw [eb] at ob
  have g1 : (FloatKind.f64.format.order a a != some Ordering.eq) = false := by rw [dbl, order_self fa]; rfl
  have g2 : (FloatKind.f64.format.order b b != some Ordering.eq) = false := by rw [dbl, order_self fb]; rfl
  have H1 := Lib.hid (fun W => rvalid_calls mode W hmode)
  have H2 := Lib.hid (fun W => rinf_calls a W fa)
  have H3 := Lib.hid (fun W => rinf_calls b W fb)
  have hX := fun W (h : Tab W) => rnum_calls a W fa h
  have hY := fun W (h : Tab W) => rnum_calls b W fb h
  rw [ea] at hX
  rw [eb] at hY
  have HX := Lib.hid hX
  have HY := Lib.hid hY
  have hM1 := fun (W : World) (v u : Value) (hT : Tab W) (hv : DR W v p) (hu : DR W u p) => dmul_calls v u p p W hv oa hu oa (by show (dsqr p).ok; rw [s1]; exact o1) hT
  have hM2 := fun (W : World) (v u : Value) (hT : Tab W) (hv : DR W v q) (hu : DR W u q) => dmul_calls v u q q W hv ob hu ob (by show (dsqr q).ok; rw [s2]; exact o2) hT
  have q1e : dnorm (p.z * p.z) (p.e + p.e) = p2 := s1
  have q2e : dnorm (q.z * q.z) (q.e + q.e) = q2 := s2
  simp only [q1e] at hM1
  simp only [q2e] at hM2
  have hA := fun (W : World) (v u : Value) (hT : Tab W) (hv : DR W v p2) (hu : DR W u q2) => dadd_calls v u p2 q2 W hv o1 hu o2 hf (by rw [a1]; exact on) hT
  rw [a1] at hA
  have HM1 := Lib.hid hM1
  have HM2 := Lib.hid hM2
  have HA := Lib.hid hA
  have HN := Lib.hid (fun (W : World) (v : Value) (hv : DR W v n) => droot_calls v n r mode W hv on nn sq hmode)
  obtain ⟨R, hR⟩ : ∃ R, R = sqrtF n.m r n.e mode := ⟨_, rfl⟩
  simp only [← hR] at HN ⊢
  clear hX hY hM1 hM2 hA q1e q2e fa fb ea eb s1 s2 a1 o1 o2 hf on nn sq oa ob hR hmode
  go_enter Tryz.func68, Tryz.ntmps68
  have HT0 := Lib.hid hT
  clear hT
  go_wp2_with fail
  refine (H1.out _).mono ?_
  rintro e3 w1 ⟨rfl, rfl⟩
  go_wp2_with fail
  refine (H2.out _).mono ?_
  rintro e3 w1 ⟨rfl, rfl⟩
  go_wp2_with fail
  refine (H3.out _).mono ?_
  rintro e3 w1 ⟨rfl, rfl⟩
  go_wp2_with fail
  refine (HX.out _ HT0.out).mono ?_
  rintro e3 w1 ⟨va, rfl, hda, hba⟩
  have hg := grown_of_below hba none
  have HT1 := Lib.hid (HT0.out.ext hg)
  have KA := Lib.hid hda
  have HG1 := Lib.hid hg
  clear hg hda hba HT0
  go_wp2_with fail
  refine (HX.out _ HT1.out).mono ?_
  rintro e3 w2 ⟨vb, rfl, hdb, hbb⟩
  have hg := grown_of_below hbb none
  have HT2 := Lib.hid (HT1.out.ext hg)
  have KA2 := Lib.hid (KA.out.grown0 hg)
  have KB := Lib.hid hdb
  have HG2 := Lib.hid (grown_trans HG1.out hg)
  clear hg hdb hbb HT1 KA HG1
  go_wp2_with fail
  refine (HM1.out _ _ _ HT2.out KA2.out KB.out).mono ?_
  rintro e3 w3 ⟨vc, rfl, ⟨A1, c1, rfl, k1, m1, hW1⟩, hbc⟩
  have hN1 : DR w3 (NV p2.neg A1 (words p2.m).length c1 p2.e) p2 := ⟨A1, c1, rfl, k1, m1, hW1⟩
  have hg := grown_of_below hbc none
  obtain ⟨w4, hw4⟩ : ∃ w4, w4 = w3.alloc (.cells #[.bool p2.neg, .slice A1 (words p2.m).length c1, .int .i64 p2.e] 74) := ⟨_, rfl⟩
  have hg34 : w3.grownBy w4 none := by rw [hw4]; exact grown_alloc _ _ _
  have r4 : w4.heap[w3.heap.size]? = some (.cells #[.bool p2.neg, .slice A1 (words p2.m).length c1, .int .i64 p2.e] 74 (0, 0)) := by rw [hw4]; exact heap_alloc_new w3 _
  have HT4 := Lib.hid (HT2.out.ext (grown_trans hg hg34))
  have HG4 := Lib.hid (grown_trans HG2.out (grown_trans hg hg34))
  have HN4 := Lib.hid (hN1.grown0 hg34)
  unfold NV at HN4 ⊢
  obtain ⟨N1, hn1⟩ : ∃ L, L = (words p2.m).length := ⟨_, rfl⟩
  rw [← hn1] at HN4 r4 hw4 ⊢
  have HR4 := Lib.hid r4
  have HW4 := Lib.hid hw4
  clear hn1 hw4 r4 hg34 hg hN1 k1 m1 hW1 hbc HT2 KA2 KB HG2 HM1
  go_upto_region 8 with fail
  rw [← HW4.out]
  clear HW4
  go_wp2_with fail
  refine (HY.out _ HT4.out).mono ?_
  rintro e3 w5 ⟨va, rfl, hda, hba⟩
  have hg := grown_of_below hba none
  have HT5 := Lib.hid (HT4.out.ext hg)
  have KA := Lib.hid hda
  have HG5 := Lib.hid hg
  clear hg hda hba HT4
  go_wp2_with fail
  refine (HY.out _ HT5.out).mono ?_
  rintro e3 w6 ⟨vb, rfl, hdb, hbb⟩
  have hg := grown_of_below hbb none
  have HT6 := Lib.hid (HT5.out.ext hg)
  have KA2 := Lib.hid (KA.out.grown0 hg)
  have KB := Lib.hid hdb
  have HG6 := Lib.hid (grown_trans HG5.out hg)
  clear hg hdb hbb HT5 KA HG5
  go_wp2_with fail
  refine (HM2.out _ _ _ HT6.out KA2.out KB.out).mono ?_
  rintro e3 w7 ⟨vc, rfl, ⟨A2, c2, rfl, k2, m2, hW2⟩, hbc⟩
  have hN2 : DR w7 (NV q2.neg A2 (words q2.m).length c2 q2.e) q2 := ⟨A2, c2, rfl, k2, m2, hW2⟩
  have hg := grown_of_below hbc none
  obtain ⟨w8, hw8⟩ : ∃ w8, w8 = w7.alloc (.cells #[.bool q2.neg, .slice A2 (words q2.m).length c2, .int .i64 q2.e] 74) := ⟨_, rfl⟩
  have hg78 : w7.grownBy w8 none := by rw [hw8]; exact grown_alloc _ _ _
  have r8 : w8.heap[w7.heap.size]? = some (.cells #[.bool q2.neg, .slice A2 (words q2.m).length c2, .int .i64 q2.e] 74 (0, 0)) := by rw [hw8]; exact heap_alloc_new w7 _
  have hg48 := grown_trans HG6.out (grown_trans hg hg78)
  have HT8 := Lib.hid (HT6.out.ext (grown_trans hg hg78))
  have HG8 := Lib.hid (grown_trans HG4.out hg48)
  have HN8 := Lib.hid (hN2.grown0 hg78)
  have HN48 := Lib.hid (DR.grown0 HN4.out hg48)
  have r48 := heap_grown HR4.out hg48
  unfold NV at HN8 ⊢
  obtain ⟨N2, hn2⟩ : ∃ L, L = (words q2.m).length := ⟨_, rfl⟩
  rw [← hn2] at HN8 r8 hw8 ⊢
  obtain ⟨x0, x1, x2⟩ := row3 r48
  obtain ⟨y0, y1, y2⟩ := row3 r8
  have HAd := Lib.hid (HA.out w8 _ _ HT8.out HN48.out HN8.out)
  have HW8 := Lib.hid hw8
  clear hn2 hw8 r8 r48 hg78 hg hg48 hN2 k2 m2 hW2 hbc HT6 KA2 KB HG6 HM2 HN4 HR4 HY HA HN8 HN48
  go_upto_region 9 with fail
  rw [← HW8.out]
  clear HW8
  go_wp2_with fail
  refine HAd.out.mono ?_
  rintro e3 w9 ⟨vd, rfl, ⟨A3, c3, rfl, k3, m3, hW3⟩, hbd⟩
  have hN3 : DR w9 (NV n.neg A3 (words n.m).length c3 n.e) n := ⟨A3, c3, rfl, k3, m3, hW3⟩
  have hH := fun o => HN.out (w9.alloc o) _ (hN3.grown0 (grown_alloc _ _ _))
  have HG9 := Lib.hid (grown_trans HG8.out (grown_of_below hbd none))
  unfold NV at hH ⊢
  obtain ⟨N3, hn3⟩ : ∃ L, L = (words n.m).length := ⟨_, rfl⟩
  rw [← hn3] at hH ⊢
  have HH := Lib.hid hH
  clear hn3 hH hN3 k3 m3 hW3 hbd HAd HT8 x0 x1 x2 y0 y1 y2 HN
  go_wp2_with fail
  refine (HH.out _).mono ?_
  rintro e3 w10 ⟨rfl, hg⟩
  have HF := Lib.hid (grown_trans HG9.out (grown_trans (grown_alloc _ _ _) hg))
  clear hg
  go_wp2
  go_ret
  exact ⟨rfl, HF.out⟩
theorem hyp4 : HypOk 4616189618054758400 0 d4 ⟨false, 0, 0⟩ d16 ⟨false, 0, 0⟩ d16 (2 ^ 64) := ⟨⟨by decide, by decide⟩, ⟨by decide, by decide⟩, by decide +kernel, by decide +kernel, by decide +kernel, by decide +kernel, by decide +kernel, ok_of (by decide) (by decide +kernel) (by decide), .inl ⟨rfl, rfl, rfl⟩, .inr (.inl rfl), ok_of (by decide) (by decide +kernel) (by decide), rfl, sq16⟩
theorem aabs4 (w : World) (hT : Tab w) : Calls Tryz.prog 41 #[.complex .f64 4616189618054758400 0, .int .i64 1] w fun e w' => e = .returned (.float .f64 4616189618054758400) ∧ w.grownBy w' none := by
  have h := fun W (h : Tab W) => rhyp_calls 4616189618054758400 0 1 (2 ^ 64) _ _ _ _ _ W hyp4 (by decide) h
  rw [show sqrtF d16.m (2 ^ 64) d16.e 1 = 4616189618054758400 by decide +kernel] at h
  have H := Lib.hid (h w hT)
  clear h hT
  go_enter Tryz.func41, Tryz.ntmps41
  go_wp2_with fail
  refine H.out.mono ?_
  rintro e3 w1 ⟨rfl, hg⟩
  have HG := Lib.hid hg
  clear hg
  go_wp2
  go_ret
  exact ⟨rfl, HG.out⟩
end Go.Proofs.YtjbdadhggejoiaaGreatDoor

namespace Go.Proofs.YtjbdadhggejoiaaGreatDoor
open Go.RowKit
set_option maxRecDepth 100000
attribute [local go_sem] run_frombits run_bits store_f store_c run_neg

theorem rs4 (w : World) (hT : Tab w) : Calls Tryz.prog 40 #[.float .f64 4616189618054758400, .int .i64 1] w fun e w' => e = .returned (.float .f64 4611686018427387904) ∧ w.grownBy w' none := by
  have h := rsqrt_calls 4616189618054758400 (2 ^ 64) 1 w (by decide) (by decide) sq4 (by decide) (by decide +kernel) hT
  rwa [show sqrtF (ofF 4616189618054758400).m (2 ^ 64) (ofF 4616189618054758400).e 1 = 4611686018427387904 by decide +kernel] at h
theorem rs3 (w : World) (hT : Tab w) : Calls Tryz.prog 40 #[.float .f64 4613937818241073152, .int .i64 1] w fun e w' => e = .returned (.float .f64 4610479282544200874) ∧ w.grownBy w' none := by
  have h := rsqrt_calls 4613937818241073152 15975348984942515101 1 w (by decide) (by decide) ⟨by decide +kernel, by decide +kernel, by decide +kernel, by decide, by decide +kernel, by decide +kernel⟩ (by decide) (by decide +kernel) hT
  rwa [show sqrtF (ofF 4613937818241073152).m 15975348984942515101 (ofF 4613937818241073152).e 1 = 4610479282544200874 by decide +kernel] at h
theorem radd23 (w : World) (hT : Tab w) : Calls Tryz.prog 42 #[.float .f64 4611686018427387904, .float .f64 4610479282544200874, .int .i64 1] w fun e w' => e = .returned (.float .f64 4615586250113164885) ∧ w.grownBy w' none := by
  have h := radd_calls 4611686018427387904 4610479282544200874 1 w ⟨⟨by decide, by decide⟩, ⟨by decide, by decide⟩, .inr (.inr (by decide +kernel)), ok_of (by decide +kernel) (by decide +kernel) (by decide +kernel), by decide, fun h => absurd h (by decide +kernel), fun _ => ⟨by decide +kernel, by decide +kernel, by decide +kernel⟩⟩ hT
  rwa [show raddF 4611686018427387904 4610479282544200874 1 = 4615586250113164885 by decide +kernel] at h
theorem rdiv1 (w : World) (hT : Tab w) : Calls Tryz.prog 44 #[.float .f64 4607182418800017408, .float .f64 4615586250113164885, .int .i64 3] w fun e w' => e = .returned (.float .f64 4598498563450654039) ∧ w.grownBy w' none := by
  have h := rdiv_calls 4607182418800017408 4615586250113164885 3 w ⟨⟨by decide, by decide⟩, ⟨by decide, by decide⟩, rfl, rfl, by decide +kernel, by decide +kernel, Nat.le_trans (words_len_lt (k := 64) (by decide +kernel)) (by decide), by decide +kernel, by decide +kernel, by decide +kernel⟩ (by decide) hT
  rwa [show ratioF (ofF 4607182418800017408) (ofF 4615586250113164885) 3 = 4598498563450654039 by decide +kernel] at h
theorem grow4 (w : World) (hT : Tab w) : Calls Tryz.prog 43 #[BV 4611686018427387904 0 0, .float .f64 4598498563450654039] w fun e w' => e = .returned (.tuple #[BV 4611686018427387904 0 4598498563450654039, .int .i64 0]) ∧ w.grownBy w' none := by
  have h := bgrow_calls 4611686018427387904 0 0 4598498563450654039 w ⟨by decide, by decide⟩ ⟨by decide, by decide⟩ ⟨by decide, by decide⟩ rfl ⟨by decide, by decide⟩ rfl ⟨⟨by decide, by decide⟩, ⟨by decide, by decide⟩, .inl (by decide +kernel), ok_of (by decide +kernel) (by decide +kernel) (by decide +kernel), by decide, fun h => absurd h (by decide +kernel), fun _ => ⟨by decide +kernel, by decide +kernel, by decide +kernel⟩⟩ (by rw [show raddF 0 4598498563450654039 3 = 4598498563450654039 by decide +kernel]; exact ⟨by decide, by decide⟩) hT
  rwa [show raddF 0 4598498563450654039 3 = 4598498563450654039 by decide +kernel] at h
theorem BDuo.lt9 {w : World} {r : Nat} (h : BDuo w r) : r < w.heap.size := by
  obtain ⟨a, b, c, t, h⟩ := h
  exact (Array.getElem?_eq_some_iff.1 h).1
/-- a variable that holds a ball -/
def VarB (w3 wx : World) (B x y r : Nat) : Prop := (∃ t, wx.heap[B]? = some (.cells #[.complex .f64 x y, .float .f64 r] t (0, 0))) ∧ w3.grownBy wx none
theorem VarB.alloc {w3 w : World} {x y r : Nat} {t : TypeId} (hg : w3.grownBy w none) : VarB w3 (w.alloc (.cells #[.complex .f64 x y, .float .f64 r] t)) w.heap.size x y r :=
  ⟨⟨t, heap_alloc_new w _⟩, grown_trans hg (grown_alloc _ _ _)⟩
theorem VarB.set {w3 w : World} {B x y r : Nat} (h : BDuo w B) (hg : w3.grownBy w none) (hB : w3.heap.size ≤ B) : VarB w3 ((w.setCell ⟨B, 0, none⟩ (.complex .f64 x y)).setCell ⟨B, 1, none⟩ (.float .f64 r)) B x y r := by
  obtain ⟨a, b, c, t, h⟩ := h
  have s0 := heap_setCell_same w B 0 _ t (.complex .f64 x y) h
  have s1 := heap_setCell_same _ B 1 _ t (.float .f64 r) s0
  exact ⟨⟨t, s1⟩, grown_set_new (grown_set_new hg hB) hB⟩
set_option maxHeartbeats 4000000 in
theorem bsqrt_4 (w : World) (hT : Tab w) : Calls Tryz.prog 14 #[BV 4616189618054758400 0 4607182418800017408] w fun e w' => e = .returned (.tuple #[BV 4611686018427387904 0 4598498563450654039, .int .i64 0, .int .i64 0]) ∧ w.grownBy w' none := by
  have hv := fun W => valid_calls 4616189618054758400 0 4607182418800017408 W ⟨by decide, by decide⟩ ⟨by decide, by decide⟩ ⟨by decide, by decide⟩
  rw [show fneg 4607182418800017408 = false from rfl] at hv
  have HV := Lib.hid hv
  have HAb := Lib.hid (fun W (h : Tab W) => babs_calls W h)
  have hr := fun W (h : Tab W) => bray_calls 4616189618054758400 0 4607182418800017408 W apk ⟨by decide, by decide⟩ rfl (.inr ⟨by decide +kernel, by decide +kernel, by decide +kernel, by decide +kernel⟩) rfl h
  rw [has4] at hr
  have HRy := Lib.hid hr
  have HP := Lib.hid (fun W (h : Tab W) => point_4 W h)
  have HA4 := Lib.hid (fun W (h : Tab W) => aabs4 W h)
  have HS4 := Lib.hid (fun W (h : Tab W) => rs4 W h)
  have HS3 := Lib.hid (fun W (h : Tab W) => rs3 W h)
  have HAd := Lib.hid (fun W (h : Tab W) => radd23 W h)
  have HDv := Lib.hid (fun W (h : Tab W) => rdiv1 W h)
  have HGr := Lib.hid (fun W (h : Tab W) => grow4 W h)
  clear hv hr
  unfold BV at *
  go_enter Tryz.func14, Tryz.ntmps14
  go_upto_region 1 with fail
  obtain ⟨w2, hw2⟩ : ∃ w2, w2 = (w.alloc (.cells #[.complex .f64 4616189618054758400 0, .float .f64 4607182418800017408] 39)).alloc (.cells #[.complex .f64 0 0, .float .f64 0] 39) := ⟨_, rfl⟩
  have r0 : w2.heap[w.heap.size]? = some (.cells #[.complex .f64 4616189618054758400 0, .float .f64 4607182418800017408] 39 (0, 0)) := by rw [hw2]; exact heap_old (heap_at rfl)
  have r1 : w2.heap[w.heap.size + 1]? = some (.cells #[.complex .f64 0 0, .float .f64 0] 39 (0, 0)) := by rw [hw2]; exact heap_at (by simp)
  have hg2 : w.grownBy w2 none := by rw [hw2]; exact grown_trans (grown_alloc _ _ _) (grown_alloc _ _ _)
  rw [← hw2]
  obtain ⟨x0, x1⟩ := row2 r0
  have KC : Hid (∀ w' : World, w2.grownBy w' none → (w'.cell? ⟨w.heap.size, 0, none⟩ = some (.complex .f64 4616189618054758400 0) ∧ w'.cell? ⟨w.heap.size, 1, none⟩ = some (.float .f64 4607182418800017408)) ∧ Tab w' ∧ w.grownBy w' none ∧ BDuo w' (w.heap.size + 1)) := fun w' h => ⟨row2 (heap_grown r0 h), hT.ext (grown_trans hg2 h), grown_trans hg2 h, BDuo.grown ⟨_, _, _, _, r1⟩ h⟩
  clear hw2 r0 r1 hg2 hT
  go_wp2_with fail
  refine (HV.out _).mono ?_
  rintro e3 w3 ⟨rfl, hg⟩
  obtain ⟨⟨x0, x1⟩, hT3, _, _⟩ := KC.out _ hg
  have HG3 := Lib.hid hg
  have HAb3 := Lib.hid (HAb.out _ hT3)
  clear hg hT3 HAb HV
  go_wp2_with fail
  refine HAb3.out.mono ?_
  rintro e3 w4 ⟨rfl, hg⟩
  obtain ⟨w5, hw5⟩ : ∃ w5, w5 = w4.alloc (.cells #[.float .f64 4613937818241073152, .float .f64 4617315517961601024] 63) := ⟨_, rfl⟩
  have hg5 : w4.grownBy w5 none := by rw [hw5]; exact grown_alloc _ _ _
  have r5 : w5.heap[w4.heap.size]? = some (.cells #[.float .f64 4613937818241073152, .float .f64 4617315517961601024] 63 (0, 0)) := by rw [hw5]; exact heap_alloc_new w4 _
  have HG5 := Lib.hid (grown_trans HG3.out (grown_trans hg hg5))
  obtain ⟨⟨x0, x1⟩, hT5, _, _⟩ := KC.out _ HG5.out
  have HRy5 := Lib.hid (HRy.out _ hT5)
  have HW5 := Lib.hid hw5
  have HR5 := Lib.hid r5
  clear hg hw5 hg5 r5 hT5 HAb3 HRy HG3
  go_upto_region 6 with fail
  rw [← HW5.out]
  clear HW5
  go_wp2_with fail
  refine HRy5.out.mono ?_
  rintro e3 w6 ⟨rfl, hg⟩
  obtain ⟨⟨x0, x1⟩, hT6, _, _⟩ := KC.out _ (grown_trans HG5.out hg)
  have HP6 := Lib.hid (HP.out _ hT6)
  have HG6 := Lib.hid (grown_trans HG5.out hg)
  have HR6 := Lib.hid (heap_grown HR5.out hg)
  clear hg hT6 HRy5 HP HG5 HR5
  go_wp2_with fail
  refine HP6.out.mono ?_
  rintro e3 w7 ⟨rfl, hg⟩
  obtain ⟨w8, hw8⟩ : ∃ w8, w8 = w7.alloc (.cells #[.complex .f64 4611686018427387904 0, .float .f64 0] 39) := ⟨_, rfl⟩
  have hg8 : w7.grownBy w8 none := by rw [hw8]; exact grown_alloc _ _ _
  have r8 : w8.heap[w7.heap.size]? = some (.cells #[.complex .f64 4611686018427387904 0, .float .f64 0] 39 (0, 0)) := by rw [hw8]; exact heap_alloc_new w7 _
  have HG8 := Lib.hid (grown_trans HG6.out (grown_trans hg hg8))
  obtain ⟨⟨x0, x1⟩, hT8, _, _⟩ := KC.out _ HG8.out
  have HA8 := Lib.hid (HA4.out _ hT8)
  have HW8 := Lib.hid hw8
  have HR8 := Lib.hid r8
  have HI8 := Lib.hid (heap_grown HR6.out (grown_trans hg hg8))
  clear hg hw8 hg8 r8 hT8 HP6 HA4 HG6 HR6
  go_upto_region 10 with fail
  rw [← HW8.out]
  clear HW8
  go_wp2_with fail
  refine HA8.out.mono ?_
  rintro e3 w9 ⟨rfl, hg⟩
  have HG9 := Lib.hid (grown_trans HG8.out hg)
  have HB9 := Lib.hid (heap_grown HR8.out hg)
  have HI9 := Lib.hid (heap_grown HI8.out hg)
  have HS9 := Lib.hid (HS4.out _ (KC.out _ HG9.out).2.1)
  clear hg HA8 HS4 HG8 HR8 HI8 x0 x1
  go_wp2_with fail
  refine HS9.out.mono ?_
  rintro e3 wA ⟨rfl, hg⟩
  have HGA := Lib.hid (grown_trans HG9.out hg)
  have HBA := Lib.hid (heap_grown HB9.out hg)
  obtain ⟨y0, y1⟩ := row2 (heap_grown HI9.out hg)
  have HSA := Lib.hid (HS3.out _ (KC.out _ HGA.out).2.1)
  clear hg HS9 HS3 HG9 HB9 HI9
  go_wp2_with fail
  refine HSA.out.mono ?_
  rintro e3 wB ⟨rfl, hg⟩
  have HGB := Lib.hid (grown_trans HGA.out hg)
  have HBB := Lib.hid (heap_grown HBA.out hg)
  have HAB := Lib.hid (HAd.out _ (KC.out _ HGB.out).2.1)
  clear hg HSA HAd HGA HBA y0 y1
  go_wp2_with fail
  refine HAB.out.mono ?_
  rintro e3 w8 ⟨rfl, hg⟩
  have HG := Lib.hid (grown_trans HGB.out hg)
  have HB := Lib.hid (heap_grown HBB.out hg)
  obtain ⟨B9, hB9⟩ : ∃ B, B = w7.heap.size := ⟨_, rfl⟩
  rw [← hB9] at HB
  have KS : Hid (∀ w' : World, w8.grownBy w' none → w'.cell? ⟨B9, 0, none⟩ = some (.complex .f64 4611686018427387904 0) ∧ w'.cell? ⟨B9, 1, none⟩ = some (.float .f64 0) ∧ w'.cell? ⟨w.heap.size, 1, none⟩ = some (.float .f64 4607182418800017408) ∧ w8.grownBy w' none ∧ Tab w') := fun w' h => by
    obtain ⟨a, b⟩ := row2 (heap_grown HB.out h)
    obtain ⟨⟨_, c⟩, d, _, _⟩ := KC.out _ (grown_trans HG.out h)
    exact ⟨a, b, c, h, d⟩
  clear hg HAB HGB HBB
  go_upto_region 12 with fail
  rw [← hB9]
  clear hB9
  have hb0 : w8.heap.size ≤ w8.heap.size := Nat.le_refl _
  go_cut [11] (fun v11 wx => ∃ B, v11 = .pointer (some ⟨B, 0, none⟩) ∧ VarB w8 wx B 4611686018427387904 0 4598498563450654039)
  case first =>
    go_region_held3 (fun w' : World => w'.cell? ⟨B9, 0, none⟩ = some (.complex .f64 4611686018427387904 0) ∧ w'.cell? ⟨B9, 1, none⟩ = some (.float .f64 0) ∧ w'.cell? ⟨w.heap.size, 1, none⟩ = some (.float .f64 4607182418800017408) ∧ w8.grownBy w' none ∧ Tab w')
      (first
        | with_reducible exact KS.out _ (grown_set_new (grown_set_new hGg hb0) hb0)
        | with_reducible exact KS.out _ (grown_set_new (grown_set_new hGg hsd) hsd)
        | with_reducible exact KS.out _ hGg
        | with_reducible exact KS.out _ hGd
        | with_reducible exact KS.out _ (grown_trans hGg (grown_alloc _ _ _))
        | with_reducible exact KS.out _ (grown_trans hGd (grown_alloc _ _ _))
        | with_reducible exact KS.out _ (drew_grown' _)
        | (go_split_ands; with_reducible exact KS.out _ (grown_trans (by assumption) (grown_alloc _ _ _))))
      (first
        | (go_at_call 44; go_split_ands; refine (HDv.out _ (by assumption)).mono ?_; rintro e3 wd ⟨rfl, hgd⟩; have hGd := grown_trans (show w8.grownBy _ none by assumption) hgd; have hsd := hGd.size; (first | (have hBx : BDuo wd _ := (by with_reducible exact BDuo.grown hBx hgd); obtain ⟨q1, q2, q3, m0, m1, m2, m3⟩ := hBx.open; have hltx := BDuo.lt9 hBx) | (have hn1 : (w8.alloc (.cells #[.complex .f64 0 0, .float .f64 0] 39)).grownBy wd none := (by first | with_reducible exact hgd | with_reducible exact grown_trans (drew_grown' _) hgd); have hBx : BDuo wd w8.heap.size := BDuo.grown ⟨_, _, _, _, heap_alloc_new w8 _⟩ hn1; obtain ⟨q1, q2, q3, m0, m1, m2, m3⟩ := hBx.open; have hltx := BDuo.lt9 hBx) | skip))
        | (go_at_call 43; go_split_ands; refine (HGr.out _ (by assumption)).mono ?_; rintro e3 wg ⟨rfl, hgg⟩; have hGg := grown_trans (show w8.grownBy _ none by assumption) hgg; (first | (have hBx : BDuo wg _ := (by with_reducible exact BDuo.grown hBx hgg); obtain ⟨q1, q2, q3, m0, m1, m2, m3⟩ := hBx.open; have hltx := BDuo.lt9 hBx) | (have hn1 : (wd.alloc (.cells #[.complex .f64 0 0, .float .f64 0] 39)).grownBy wg none := (by first | with_reducible exact hgg | with_reducible exact grown_trans (drew_grown' _) hgg); have hBx : BDuo wg wd.heap.size := BDuo.grown ⟨_, _, _, _, heap_alloc_new wd _⟩ hn1; obtain ⟨q1, q2, q3, m0, m1, m2, m3⟩ := hBx.open; have hltx := BDuo.lt9 hBx) | skip)))
    all_goals
      go_wp2
      go_meet
      first
        | with_reducible exact ⟨_, rfl, VarB.alloc hGg⟩
        | with_reducible exact ⟨_, rfl, VarB.set hBx hGg (by first | with_reducible exact hb0 | with_reducible exact hsd)⟩
  case rest =>
    obtain ⟨B, rfl, ⟨tt, hrB⟩, hgB⟩ := hcut
    obtain ⟨y0, y1⟩ := row2 hrB
    have HGf := KC.out _ (grown_trans HG.out hgB)
    obtain ⟨p1, p2, p3, u0, u1, f0, f1⟩ := HGf.2.2.2.open
    have HF := Lib.hid (grown_set_new (i := 1) (v := .float .f64 4598498563450654039) (grown_set_new (i := 0) (v := .complex .f64 4611686018427387904 0) HGf.2.2.1 (Nat.le_succ w.heap.size)) (Nat.le_succ w.heap.size))
    clear hrB hgB HGf
    go_wp2
    refine bodyPost_ret (v := .tuple #[.agg #[.complex .f64 4611686018427387904 0, .float .f64 4598498563450654039], .int .i64 0, .int .i64 0]) ?_ rfl ⟨rfl, HF.out⟩
    simp [results, Tryz.results14, go_sem, *]
end Go.Proofs.YtjbdadhggejoiaaGreatDoor
