/- the reference's and the law's small functions of balls; sides and modes of roots.
   roots: how twice a square compares with the root of norm and x together.
   roots: how twice a float's square compares.
   roots: bits around a root that is a float.
   roots: the nearest, where the root is a float.
   roots: parts, of values on the real axis.
   roots: parts of 3 + 4i.
   roots: a part of a value off the axis. -/
import Derived.Test.YtjbdadhggejoiaaGreatDoorM27

namespace Go.Proofs.YtjbdadhggejoiaaGreatDoor
open Go.RowKit
set_option maxRecDepth 100000
attribute [local go_sem] run_frombits run_bits store_f store_c

theorem clike_calls (x y : Nat) (w : World) (hx : NF x) : Calls Tryz.prog 75 #[.float .f64 x, .float .f64 y] w fun e w' => e = .returned (.bool (decide (x = y))) ∧ w = w' := by
  have g : (FloatKind.f64.format.order x x != some Ordering.eq) = false := by rw [dbl, hx]; rfl
  by_cases h : x = y
  · subst h
    rw [decide_eq_true rfl]
    go_enter Tryz.func75, Tryz.ntmps75
    go_wp2
    go_ret
    exact ⟨rfl, rfl⟩
  · have hb : ((x : Int) == (y : Int)) = false := by rw [beq_eq_false_iff_ne]; omega
    rw [decide_eq_false h]
    go_enter Tryz.func75, Tryz.ntmps75
    go_wp2
    go_ret
    exact ⟨rfl, rfl⟩
theorem cSame6_calls (x y u v : Nat) (w : World) (hx : NF x) (hy : NF y) : Calls Tryz.prog 74 #[.complex .f64 x y, .complex .f64 u v] w fun e w' => e = .returned (.bool (decide (x = u) && decide (y = v))) ∧ w = w' := by
  have H1 := Lib.hid (fun W => clike_calls x u W hx)
  have H2 := Lib.hid (fun W => clike_calls y v W hy)
  obtain ⟨b1, hb1⟩ : ∃ b, b = decide (x = u) := ⟨_, rfl⟩
  obtain ⟨b2, hb2⟩ : ∃ b, b = decide (y = v) := ⟨_, rfl⟩
  simp only [← hb1] at H1 ⊢
  simp only [← hb2] at H2 ⊢
  clear hb1 hb2
  go_enter Tryz.func74, Tryz.ntmps74
  go_wp2_with fail
  refine (H1.out _).mono ?_
  rintro e3 w1 ⟨rfl, rfl⟩
  cases b1
  · go_wp2
    go_ret
    exact ⟨rfl, rfl⟩
  · go_wp2_with fail
    refine (H2.out _).mono ?_
    rintro e3 w1 ⟨rfl, rfl⟩
    go_wp2
    go_ret
    exact ⟨rfl, rfl⟩
def sameB (x y r u v s : Nat) : Bool := (decide (x = u) && decide (y = v)) && decide (r = s)
theorem cSame14_calls (x y r u v s : Nat) (w : World) (hx : NF x) (hy : NF y) (hr : NF r) : Calls Tryz.prog 45 #[BV x y r, BV u v s] w fun e w' => e = .returned (.bool (sameB x y r u v s)) ∧ w.grownBy w' none := by
  have H1 := Lib.hid (fun W => cSame6_calls x y u v W hx hy)
  have H2 := Lib.hid (fun W => clike_calls r s W hr)
  unfold sameB
  obtain ⟨b1, hb1⟩ : ∃ b, b = (decide (x = u) && decide (y = v)) := ⟨_, rfl⟩
  obtain ⟨b2, hb2⟩ : ∃ b, b = decide (r = s) := ⟨_, rfl⟩
  simp only [← hb1] at H1 ⊢
  simp only [← hb2] at H2 ⊢
  clear hb1 hb2
  unfold BV
  go_enter Tryz.func45, Tryz.ntmps45
  go_wp2_with fail
  refine (H1.out _).mono ?_
  rintro e3 w1 ⟨rfl, rfl⟩
  cases b1
  · go_wp2
    go_ret
    exact ⟨rfl, grown_trans (grown_alloc _ _ _) (grown_alloc _ _ _)⟩
  · go_wp2_with fail
    refine (H2.out _).mono ?_
    rintro e3 w1 ⟨rfl, rfl⟩
    go_wp2
    go_ret
    exact ⟨rfl, grown_trans (grown_alloc _ _ _) (grown_alloc _ _ _)⟩
theorem lsame_calls (x y r u v s : Nat) (w : World) (hx : NF x) (hy : NF y) (hr : NF r) : Calls Tryz.prog 16 #[BV x y r, BV u v s] w fun e w' => e = .returned (.bool (sameB x y r u v s)) ∧ w.grownBy w' none := by
  have H1 := Lib.hid (fun W => cSame14_calls x y r u v s W hx hy hr)
  obtain ⟨b1, hb1⟩ : ∃ b, b = sameB x y r u v s := ⟨_, rfl⟩
  simp only [← hb1] at H1 ⊢
  clear hb1
  unfold BV at H1 ⊢
  go_enter Tryz.func16, Tryz.ntmps16
  go_wp2_with fail
  refine (H1.out _).mono ?_
  rintro e3 w1 ⟨rfl, hg⟩
  have HG := Lib.hid (grown_trans (grown_trans (grown_alloc _ _ _) (grown_alloc _ _ _)) hg)
  clear hg
  go_wp2
  go_ret
  exact ⟨rfl, HG.out⟩
theorem lof_calls (x y r : Nat) (w : World) : Calls Tryz.prog 15 #[.float .f64 x, .float .f64 y, .float .f64 r] w fun e w' => e = .returned (BV x y r) ∧ w.grownBy w' none := by
  have HG := Lib.hid (grown_alloc w (.cells #[.complex .f64 x y, .float .f64 r] 39) none)
  unfold BV
  go_enter Tryz.func15, Tryz.ntmps15
  go_wp2
  refine bodyPost_ret (v := .agg #[.complex .f64 x y, .float .f64 r]) ?_ rfl ⟨rfl, HG.out⟩
  simp [results, Tryz.results15, go_sem, *]
theorem rside_calls (w : World) : Calls Tryz.prog 36 #[.complex .f64 13830554455654793216 0] w fun e w' => e = .returned (.int .i64 1) ∧ w = w' := by
  have H1 := Lib.hid (fun W => signbit_calls 0 W (by decide))
  rw [show fneg 0 = false from rfl] at H1
  go_enter Tryz.func36, Tryz.ntmps36
  go_wp2_with fail
  refine (H1.out _).mono ?_
  rintro e3 w1 ⟨rfl, rfl⟩
  go_wp2
  go_ret
  exact ⟨rfl, rfl⟩
theorem ropp_calls (w : World) : Calls Tryz.prog 21 #[.int .i64 2] w fun e w' => e = .returned (.int .i64 2) ∧ w = w' := by
  go_enter Tryz.func21, Tryz.ntmps21
  go_wp2
  go_ret
  exact ⟨rfl, rfl⟩
end Go.Proofs.YtjbdadhggejoiaaGreatDoor

namespace Go.Proofs.YtjbdadhggejoiaaGreatDoor
open Go.RowKit
set_option maxRecDepth 100000
attribute [local go_sem] run_frombits run_bits store_f store_c

def hwD (x g : Dy) : Dy := dsub (dshift g 1) x
def hwI (norm x g : Dy) : Int := if sgD (hwD x g).neg (hwD x g).m < 0 then -1 else dcmp (dsqr (hwD x g)) norm
structure HwOk (norm x g : Dy) : Prop where
  no : norm.ok
  xo : x.ok
  go : g.ok
  s : (dshift g 1).ok
  f : notFar (dshift g 1) (dneg x)
  d : (hwD x g).ok
  q : (dsqr (hwD x g)).ok
set_option maxHeartbeats 4000000 in
theorem rhalf_calls (v1 v2 v3 : Value) (norm x g : Dy) (w : World) (h1 : DR w v1 norm) (h2 : DR w v2 x) (h3 : DR w v3 g) (h : HwOk norm x g) (hT : Tab w) :
    Calls Tryz.prog 91 #[v1, v2, v3] w fun e w' => e = .returned (.int .i64 (hwI norm x g)) ∧ w.grownBy w' none := by
  obtain ⟨no, xo, go, so, hf, ho, qo⟩ := h
  obtain ⟨A1, c1, rfl, k1, m1, hW1⟩ := h1
  obtain ⟨A2, c2, rfl, k2, m2, hW2⟩ := h2
  obtain ⟨A3, c3, rfl, k3, m3, hW3⟩ := h3
  have hN1 : DR w (NV norm.neg A1 (words norm.m).length c1 norm.e) norm := ⟨A1, c1, rfl, k1, m1, hW1⟩
  have hN2 : DR w (NV x.neg A2 (words x.m).length c2 x.e) x := ⟨A2, c2, rfl, k2, m2, hW2⟩
  have hN3 : DR w (NV g.neg A3 (words g.m).length c3 g.e) g := ⟨A3, c3, rfl, k3, m3, hW3⟩
  have hS := fun (W : World) (hg : w.grownBy W none) => dshift_calls _ g 1 W (hN3.grown0 hg) go so
  have eR : hwI norm x g = if sgD (hwD x g).neg (hwD x g).m < 0 then -1 else dcmp (dsqr (hwD x g)) norm := rfl
  have eD : hwD x g = dsub (dshift g 1) x := rfl
  obtain ⟨s, hs⟩ : ∃ s, s = dshift g 1 := ⟨_, rfl⟩
  simp only [← hs] at hS so hf eD
  obtain ⟨d, hd⟩ : ∃ d, d = hwD x g := ⟨_, rfl⟩
  simp only [← hd] at ho qo eR eD
  have hB := fun (W : World) (v : Value) (hg : w.grownBy W none) (hv : DR W v s) => dsub_calls v _ s x W hv so (hN2.grown0 hg) xo hf (by rw [← eD]; exact ho) (hT.ext hg)
  rw [← eD] at hB
  have hG := fun (W : World) (v : Value) (hv : DR W v d) => dsign_calls v d.neg d.m d.e W hv ho
  have hM := fun (W : World) (v : Value) (hg : w.grownBy W none) (hv : DR W v d) => dmul_calls v v d d W hv ho hv ho qo (hT.ext hg)
  have eq : dnorm (d.z * d.z) (d.e + d.e) = dsqr d := rfl
  simp only [eq] at hM
  obtain ⟨q, hq⟩ : ∃ q, q = dsqr d := ⟨_, rfl⟩
  simp only [← hq] at hM qo eR
  have hC := fun (W : World) (v : Value) (hg : w.grownBy W none) (hv : DR W v q) => dcmp_calls v _ q norm W hv qo (hN1.grown0 hg) no
  obtain ⟨R, hR⟩ : ∃ R, R = hwI norm x g := ⟨_, rfl⟩
  rw [← hR] at eR ⊢
  unfold NV at hS hB hC ⊢
  obtain ⟨N1, hn1⟩ : ∃ L, L = (words norm.m).length := ⟨_, rfl⟩
  obtain ⟨N2, hn2⟩ : ∃ L, L = (words x.m).length := ⟨_, rfl⟩
  obtain ⟨N3, hn3⟩ : ∃ L, L = (words g.m).length := ⟨_, rfl⟩
  simp only [← hn1, ← hn2, ← hn3] at hS hB hC ⊢
  have HS := Lib.hid hS
  have HB := Lib.hid hB
  have HG := Lib.hid hG
  have HM := Lib.hid hM
  have HC := Lib.hid hC
  have HR := Lib.hid eR
  clear hS hB hG hM hC eR eD eq hs hd hq hR hn1 hn2 hn3 hN1 hN2 hN3 k1 k2 k3 hW1 hW2 hW3 no xo go so hf ho qo hT
  go_enter Tryz.func91, Tryz.ntmps91
  go_upto_region 1 with fail
  obtain ⟨w3, hw3⟩ : ∃ w3, w3 = (((w.alloc (.cells #[.bool norm.neg, .slice A1 N1 c1, .int .i64 norm.e] 74)).alloc (.cells #[.bool x.neg, .slice A2 N2 c2, .int .i64 x.e] 74)).alloc (.cells #[.bool g.neg, .slice A3 N3 c3, .int .i64 g.e] 74)) := ⟨_, rfl⟩
  have r0 : w3.heap[w.heap.size]? = some (.cells #[.bool norm.neg, .slice A1 N1 c1, .int .i64 norm.e] 74 (0, 0)) := by rw [hw3]; exact heap_old (heap_old (heap_at rfl))
  have r1 : w3.heap[w.heap.size + 1]? = some (.cells #[.bool x.neg, .slice A2 N2 c2, .int .i64 x.e] 74 (0, 0)) := by rw [hw3]; exact heap_old (heap_at (by simp))
  have r2 : w3.heap[w.heap.size + 1 + 1]? = some (.cells #[.bool g.neg, .slice A3 N3 c3, .int .i64 g.e] 74 (0, 0)) := by rw [hw3]; exact heap_at (by simp)
  have hg3 : w.grownBy w3 none := by rw [hw3]; exact grown_trans (grown_trans (grown_alloc _ _ _) (grown_alloc _ _ _)) (grown_alloc _ _ _)
  rw [← hw3]
  obtain ⟨z0, z1, z2⟩ := row3 r2
  have HG3 := Lib.hid hg3
  have KC : Hid (∀ w' : World, w3.grownBy w' none → (w'.cell? ⟨w.heap.size, 0, none⟩ = some (.bool norm.neg) ∧ w'.cell? ⟨w.heap.size, 1, none⟩ = some (.slice A1 N1 c1) ∧ w'.cell? ⟨w.heap.size, 2, none⟩ = some (.int .i64 norm.e)) ∧ (w'.cell? ⟨w.heap.size + 1, 0, none⟩ = some (.bool x.neg) ∧ w'.cell? ⟨w.heap.size + 1, 1, none⟩ = some (.slice A2 N2 c2) ∧ w'.cell? ⟨w.heap.size + 1, 2, none⟩ = some (.int .i64 x.e)) ∧ w.grownBy w' none) := fun w' h => ⟨row3 (heap_grown r0 h), row3 (heap_grown r1 h), grown_trans hg3 h⟩
  have hlt0 : w.heap.size < w3.heap.size := (Array.getElem?_eq_some_iff.1 r0).1
  have hlt1 : w.heap.size + 1 < w3.heap.size := (Array.getElem?_eq_some_iff.1 r1).1
  clear hw3 r0 r1 r2 hg3
  go_wp2_with fail
  refine (HS.out _ HG3.out).mono ?_
  rintro e3 w4 ⟨vs, rfl, ⟨As, cs, rfl, ks, ms, hWs⟩, hbs⟩
  have hg4 := grown_of_below hbs none
  have hs4 := hg4.size
  have hNs : DR w4 (NV s.neg As (words s.m).length cs s.e) s := ⟨As, cs, rfl, ks, ms, hWs⟩
  unfold NV at hNs ⊢
  obtain ⟨Ns, hns⟩ : ∃ L, L = (words s.m).length := ⟨_, rfl⟩
  rw [← hns] at hNs ⊢
  obtain ⟨w5, hw5⟩ : ∃ w5, w5 = w4.alloc (.cells #[.bool s.neg, .slice As Ns cs, .int .i64 s.e] 74) := ⟨_, rfl⟩
  have hg45 : w4.grownBy w5 none := by rw [hw5]; exact grown_alloc _ _ _
  have r4 : w5.heap[w4.heap.size]? = some (.cells #[.bool s.neg, .slice As Ns cs, .int .i64 s.e] 74 (0, 0)) := by rw [hw5]; exact heap_alloc_new w4 _
  have HG5 := Lib.hid (grown_trans hg4 hg45)
  have HBs := Lib.hid (HB.out w5 _ (grown_trans HG3.out HG5.out) (hNs.grown0 hg45))
  have T5 : Hid (Three w5 w4.heap.size) := ⟨_, _, _, _, _, _, r4⟩
  obtain ⟨x0, x1, x2⟩ := row3 r4
  obtain ⟨_, ⟨y0, y1, y2⟩, _⟩ := KC.out _ HG5.out
  have HW5 := Lib.hid hw5
  clear hw5 hg45 r4 hNs hns ks ms hWs hbs z0 z1 z2 HB
  go_upto_region 2 with fail
  rw [← HW5.out]
  clear HW5
  go_wp2_with fail
  refine HBs.out.mono ?_
  rintro e3 w6 ⟨vd, rfl, ⟨Ad, cd, rfl, kd, md, hWd⟩, hbd⟩
  have hg6 := grown_of_below hbd none
  have hNd : DR w6 (NV d.neg Ad (words d.m).length cd d.e) d := ⟨Ad, cd, rfl, kd, md, hWd⟩
  have T6 := T5.out.grown hg6 (by simp)
  have hV := VarN.set (w3 := w3) T6 hNd (grown_trans HG5.out hg6) hs4
  obtain ⟨p1, p2, p3, p4, p5, x0, x1, x2, f0, f1, f2⟩ := T6.open
  obtain ⟨w7, hw7⟩ : ∃ w7, w7 = ((w6.setCell ⟨w4.heap.size, 0, none⟩ (.bool d.neg)).setCell ⟨w4.heap.size, 1, none⟩ (.slice Ad (words d.m).length cd)).setCell ⟨w4.heap.size, 2, none⟩ (.int .i64 d.e) := ⟨_, rfl⟩
  rw [← hw7] at hV
  have T7 : Hid (Three w7 w4.heap.size) := by rw [hw7]; exact (T6.set _ _ _ _ _).1
  obtain ⟨t7, hr7, hN7, hg7⟩ := hV
  have HGd := Lib.hid (HG.out w7 _ hN7)
  have hMd := fun (W : World) (hg : w7.grownBy W none) => HM.out W _ (grown_trans HG3.out (grown_trans hg7 hg)) (DR.grown0 hN7 hg)
  unfold NV at HGd hMd ⊢
  obtain ⟨Nd, hnd⟩ : ∃ L, L = (words d.m).length := ⟨_, rfl⟩
  simp only [← hnd] at hMd
  rw [← hnd] at HGd hr7 hw7 ⊢
  have HMd := Lib.hid hMd
  have HW7 := Lib.hid hw7
  have HR7 := Lib.hid hr7
  have HG7 := Lib.hid hg7
  have HN7 := Lib.hid hN7
  clear hMd HM hnd hw7 hr7 hg7 hN7 hNd kd md hWd hbd T6 hg6 HBs T5 HG y0 y1 y2
  go_upto_region 3 with fail
  rw [← HW7.out]
  clear HW7 x0 x1 x2 f0 f1 f2
  obtain ⟨x0, x1, x2⟩ := row3 HR7.out
  go_wp2_with fail
  refine HGd.out.mono ?_
  rintro e3 w8 ⟨rfl, hg8⟩
  by_cases hlt : sgD d.neg d.m < 0
  · have hR1 : R = -1 := by rw [HR.out, if_pos hlt]
    subst hR1
    have hltT : (sgD d.neg d.m < 0) = True := eq_true hlt
    have HF := Lib.hid (KC.out _ (grown_trans HG7.out hg8)).2.2
    clear HR hg8 hlt
    go_wp2
    go_ret
    exact ⟨rfl, HF.out⟩
  · have hR1 : R = dcmp q norm := by rw [HR.out, if_neg hlt]
    have hltF : (sgD d.neg d.m < 0) = False := eq_false hlt
    have HR1 := Lib.hid hR1
    obtain ⟨x0, x1, x2⟩ : w8.cell? ⟨w4.heap.size, 0, none⟩ = some (.bool d.neg) ∧ w8.cell? ⟨w4.heap.size, 1, none⟩ = some (.slice Ad Nd cd) ∧ w8.cell? ⟨w4.heap.size, 2, none⟩ = some (.int .i64 d.e) := ⟨cell_ext hg8 x0, cell_ext hg8 x1, cell_ext hg8 x2⟩
    have HMe := Lib.hid (HMd.out w8 hg8)
    have T8 := Lib.hid (T7.out.grown hg8 (by simp))
    have HG8 := Lib.hid (grown_trans HG7.out hg8)
    clear HR hR1 hlt hg8 HMd T7 HR7 HN7
    go_wp2_with fail
    refine HMe.out.mono ?_
    rintro e3 w9 ⟨vq, rfl, ⟨Aq, cq, rfl, kq, mq, hWq⟩, hbq⟩
    have hg9 := grown_of_below hbq none
    have hNq : DR w9 (NV q.neg Aq (words q.m).length cq q.e) q := ⟨Aq, cq, rfl, kq, mq, hWq⟩
    have T9 := T8.out.grown hg9 (by simp)
    have hV := VarN.set (w3 := w3) T9 hNq (grown_trans HG8.out hg9) hs4
    obtain ⟨p1, p2, p3, p4, p5, x0, x1, x2, f0, f1, f2⟩ := T9.open
    obtain ⟨wA, hwA⟩ : ∃ wA, wA = ((w9.setCell ⟨w4.heap.size, 0, none⟩ (.bool q.neg)).setCell ⟨w4.heap.size, 1, none⟩ (.slice Aq (words q.m).length cq)).setCell ⟨w4.heap.size, 2, none⟩ (.int .i64 q.e) := ⟨_, rfl⟩
    rw [← hwA] at hV
    obtain ⟨tA, hrA, hNA, hgA⟩ := hV
    have hCd := HC.out wA _ (grown_trans HG3.out hgA) hNA
    unfold NV at hCd ⊢
    obtain ⟨Nq, hnq⟩ : ∃ L, L = (words q.m).length := ⟨_, rfl⟩
    rw [← hnq] at hCd hrA hwA ⊢
    have HCd := Lib.hid hCd
    have HWA := Lib.hid hwA
    have HRA := Lib.hid hrA
    have HGA := Lib.hid hgA
    clear hCd hwA hrA hgA hnq hNA hNq kq mq hWq hbq T9 hg9 HMe T8 HC
    go_upto_region 6 with fail
    rw [← HWA.out]
    clear HWA x0 x1 x2 f0 f1 f2
    obtain ⟨x0, x1, x2⟩ := row3 HRA.out
    obtain ⟨⟨y0, y1, y2⟩, _, _⟩ := KC.out _ HGA.out
    go_wp2_with fail
    refine HCd.out.mono ?_
    rintro e3 wB ⟨rfl, hbB⟩
    have HF := Lib.hid (KC.out _ (grown_trans HGA.out (grown_of_below hbB none))).2.2
    have hR1 := HR1.out
    subst hR1
    clear hbB HR1
    go_wp2
    go_ret
    exact ⟨rfl, HF.out⟩
end Go.Proofs.YtjbdadhggejoiaaGreatDoor

namespace Go.Proofs.YtjbdadhggejoiaaGreatDoor
open Go.RowKit
set_option maxRecDepth 100000
attribute [local go_sem] run_frombits run_bits store_f store_c

def twI (norm x : Dy) (f : Nat) : Int := hwI norm x (dsqr (ofF f))
set_option maxHeartbeats 4000000 in
theorem rtwice_calls (v1 v2 : Value) (norm x : Dy) (f : Nat) (w : World) (h1 : DR w v1 norm) (h2 : DR w v2 x) (hf : Fin64 f) (h : HwOk norm x (dsqr (ofF f))) (hT : Tab w) :
    Calls Tryz.prog 89 #[v1, v2, .float .f64 f] w fun e w' => e = .returned (.int .i64 (twI norm x f)) ∧ w.grownBy w' none := by
  have of' := ofF_ok hf
  obtain ⟨A1, c1, rfl, k1, m1, hW1⟩ := h1
  obtain ⟨A2, c2, rfl, k2, m2, hW2⟩ := h2
  have hN1 : DR w (NV norm.neg A1 (words norm.m).length c1 norm.e) norm := ⟨A1, c1, rfl, k1, m1, hW1⟩
  have hN2 : DR w (NV x.neg A2 (words x.m).length c2 x.e) x := ⟨A2, c2, rfl, k2, m2, hW2⟩
  have H1 := Lib.hid (fun W (h : Tab W) => rexact_calls f W hf h)
  have hgo := h.go
  have eT : twI norm x f = hwI norm x (dsqr (ofF f)) := rfl
  obtain ⟨p, hp⟩ : ∃ p, p = ofF f := ⟨_, rfl⟩
  simp only [← hp] at H1 hgo eT of' h
  have hM := fun (W : World) (v u : Value) (hT : Tab W) (hv : DR W v p) (hu : DR W u p) => dmul_calls v u p p W hv of' hu of' hgo hT
  have eq : dnorm (p.z * p.z) (p.e + p.e) = dsqr p := rfl
  simp only [eq] at hM
  obtain ⟨q, hq⟩ : ∃ q, q = dsqr p := ⟨_, rfl⟩
  simp only [← hq] at hM hgo eT h
  have hH := fun (W : World) (v : Value) (hg : w.grownBy W none) (hv : DR W v q) => rhalf_calls _ _ v norm x q W (hN1.grown0 hg) (hN2.grown0 hg) hv h (hT.ext hg)
  rw [← eT] at hH
  obtain ⟨R, hR⟩ : ∃ R, R = twI norm x f := ⟨_, rfl⟩
  rw [← hR] at hH ⊢
  unfold NV at hH ⊢
  obtain ⟨N1, hn1⟩ : ∃ L, L = (words norm.m).length := ⟨_, rfl⟩
  obtain ⟨N2, hn2⟩ : ∃ L, L = (words x.m).length := ⟨_, rfl⟩
  simp only [← hn1, ← hn2] at hH ⊢
  have HM := Lib.hid hM
  have HH := Lib.hid hH
  clear hM hH eT eq hp hq hR hn1 hn2 hN1 hN2 k1 k2 hW1 hW2 hgo of' h
  go_enter Tryz.func89, Tryz.ntmps89
  go_upto_region 1 with fail
  obtain ⟨w3, hw3⟩ : ∃ w3, w3 = ((w.alloc (.cells #[.bool norm.neg, .slice A1 N1 c1, .int .i64 norm.e] 74)).alloc (.cells #[.bool x.neg, .slice A2 N2 c2, .int .i64 x.e] 74)) := ⟨_, rfl⟩
  have r0 : w3.heap[w.heap.size]? = some (.cells #[.bool norm.neg, .slice A1 N1 c1, .int .i64 norm.e] 74 (0, 0)) := by rw [hw3]; exact heap_old (heap_at rfl)
  have r1 : w3.heap[w.heap.size + 1]? = some (.cells #[.bool x.neg, .slice A2 N2 c2, .int .i64 x.e] 74 (0, 0)) := by rw [hw3]; exact heap_at (by simp)
  have hg3 : w.grownBy w3 none := by rw [hw3]; exact grown_trans (grown_alloc _ _ _) (grown_alloc _ _ _)
  rw [← hw3]
  have KC : Hid (∀ w' : World, w3.grownBy w' none → (w'.cell? ⟨w.heap.size, 0, none⟩ = some (.bool norm.neg) ∧ w'.cell? ⟨w.heap.size, 1, none⟩ = some (.slice A1 N1 c1) ∧ w'.cell? ⟨w.heap.size, 2, none⟩ = some (.int .i64 norm.e)) ∧ (w'.cell? ⟨w.heap.size + 1, 0, none⟩ = some (.bool x.neg) ∧ w'.cell? ⟨w.heap.size + 1, 1, none⟩ = some (.slice A2 N2 c2) ∧ w'.cell? ⟨w.heap.size + 1, 2, none⟩ = some (.int .i64 x.e)) ∧ w.grownBy w' none ∧ Tab w') := fun w' h => ⟨row3 (heap_grown r0 h), row3 (heap_grown r1 h), grown_trans hg3 h, hT.ext (grown_trans hg3 h)⟩
  have HT3 := Lib.hid (hT.ext hg3)
  clear hw3 r0 r1 hg3 hT
  go_wp2_with fail
  refine (H1.out _ HT3.out).mono ?_
  rintro e3 w4 ⟨vs, rfl, hds, hbs⟩
  have hg4 := grown_of_below hbs none
  have HT4 := Lib.hid (HT3.out.ext hg4)
  have KS := Lib.hid hds
  have HG4 := Lib.hid hg4
  clear hds hbs hg4 HT3
  go_wp2_with fail
  refine (H1.out _ HT4.out).mono ?_
  rintro e3 w5 ⟨vt, rfl, hdt, hbt⟩
  have hg5 := grown_of_below hbt none
  have HT5 := Lib.hid (HT4.out.ext hg5)
  have KS5 := Lib.hid (KS.out.grown0 hg5)
  have KT := Lib.hid hdt
  have HG5 := Lib.hid (grown_trans HG4.out hg5)
  clear hdt hbt hg5 HT4 KS HG4
  go_wp2_with fail
  refine (HM.out _ _ _ HT5.out KS5.out KT.out).mono ?_
  rintro e3 w6 ⟨vq, rfl, ⟨Aq, cq, rfl, kq, mq, hWq⟩, hbq⟩
  have hNq : DR w6 (NV q.neg Aq (words q.m).length cq q.e) q := ⟨Aq, cq, rfl, kq, mq, hWq⟩
  have hg6 := grown_trans HG5.out (grown_of_below hbq none)
  have hHq := fun o => HH.out (w6.alloc o) _ (grown_trans (KC.out _ hg6).2.2.1 (grown_alloc _ _ _)) (hNq.grown0 (grown_alloc _ _ _))
  unfold NV at hHq ⊢
  obtain ⟨Nq, hnq⟩ : ∃ L, L = (words q.m).length := ⟨_, rfl⟩
  rw [← hnq] at hHq ⊢
  have HHq := Lib.hid hHq
  obtain ⟨⟨x0, x1, x2⟩, ⟨y0, y1, y2⟩, _, _⟩ := KC.out _ hg6
  have HG6 := Lib.hid hg6
  have hlt0 : w.heap.size < w6.heap.size := World.block_lt_of_cell? _ _ x0
  have hlt1 : w.heap.size + 1 < w6.heap.size := World.block_lt_of_cell? _ _ y0
  clear hHq hnq hNq hg6 hbq kq mq hWq HH HM KS5 KT HT5 HG5
  go_wp2_with fail
  refine (HHq.out _).mono ?_
  rintro e3 w7 ⟨rfl, hg7⟩
  have HF := Lib.hid (KC.out _ (grown_trans HG6.out (grown_trans (grown_alloc _ _ _) hg7))).2.2.1
  clear hg7
  go_wp2
  go_ret
  exact ⟨rfl, HF.out⟩
end Go.Proofs.YtjbdadhggejoiaaGreatDoor

namespace Go.Proofs.YtjbdadhggejoiaaGreatDoor
open Go.RowKit
set_option maxRecDepth 100000
attribute [local go_sem] run_frombits run_bits store_f store_c

/-- what is told of the root b of half of the root of norm and x together, being a float: r of norm, its root's bits s; those of x: f -/
structure NearOk (norm x : Dy) (r s f s2 f2 sf b : Nat) : Prop where
  no : norm.ok
  xo : x.ok
  nn : norm.neg = false
  sq : SqOk norm.m r norm.e
  se : sqrtF norm.m r norm.e 2 = s
  xm : x.mid
  xe : roundF x 2 = f
  d1 : ∀ W : World, (binOp .quo 22 (.float .f64 s) (.float .f64 4611686018427387904)).run Tryz.prog W = .ok (.float .f64 s2) W
  d2 : ∀ W : World, (binOp .quo 22 (.float .f64 f) (.float .f64 4611686018427387904)).run Tryz.prog W = .ok (.float .f64 f2) W
  d3 : ∀ W : World, (binOp .add 22 (.float .f64 s2) (.float .f64 f2)).run Tryz.prog W = .ok (.float .f64 sf) W
  d4 : ∀ W : World, (Builtin.max_ #[22, 22] 22 #[.float .f64 sf, .float .f64 0]).run Tryz.prog W = .ok (.float .f64 sf) W
  d5 : ∀ W : World, Calls Tryz.prog 123 #[.float .f64 sf] W fun e w' => e = .returned (.float .f64 b) ∧ W = w'
  bb : b + 4 < 9218868437227405311
  t0 : twI norm x b = 0
  t1 : twI norm x (b + 1) = 1
  t2 : twI norm x (b + 2) = 1
  t4 : twI norm x (b + 4) = 1
  h0 : HwOk norm x (dsqr (ofF b))
  h1 : HwOk norm x (dsqr (ofF (b + 1)))
  h2 : HwOk norm x (dsqr (ofF (b + 2)))
  h4 : HwOk norm x (dsqr (ofF (b + 4)))
set_option maxHeartbeats 4000000 in
theorem raround_calls (v1 v2 : Value) (norm x : Dy) (r s f s2 f2 sf b : Nat) (w : World) (h1 : DR w v1 norm) (h2 : DR w v2 x) (h : NearOk norm x r s f s2 f2 sf b) (hT : Tab w) :
    Calls Tryz.prog 88 #[v1, v2] w fun e w' => e = .returned (.tuple #[.int .u64 b, .int .u64 ((b + 4 : Nat) : Int)]) ∧ w.grownBy w' none := by
  obtain ⟨A1, c1, rfl, k1, m1, hW1⟩ := h1
  obtain ⟨A2, c2, rfl, k2, m2, hW2⟩ := h2
  have hN1 : DR w (NV norm.neg A1 (words norm.m).length c1 norm.e) norm := ⟨A1, c1, rfl, k1, m1, hW1⟩
  have hN2 : DR w (NV x.neg A2 (words x.m).length c2 x.e) x := ⟨A2, c2, rfl, k2, m2, hW2⟩
  have hbb := h.bb
  obtain ⟨c, hc⟩ : ∃ c, c = b + 4 := ⟨_, rfl⟩
  rw [← hc]
  have fb0 : Fin64 b := (fin_of (by omega)).1
  have fb4 : Fin64 (b + 4) := (fin_of (by omega)).1
  have hS := fun (W : World) (hg : w.grownBy W none) => droot_calls _ norm r 2 W (hN1.grown0 hg) h.no h.nn h.sq (by decide)
  have hR := fun (W : World) (hg : w.grownBy W none) => dround_calls _ x 2 W (hN2.grown0 hg) h.xo h.xm (by decide)
  rw [h.se] at hS
  rw [h.xe] at hR
  have hA := fun (W : World) (hg : w.grownBy W none) => rtwice_calls _ _ norm x b W (hN1.grown0 hg) (hN2.grown0 hg) fb0 h.h0 (hT.ext hg)
  have hB := fun (W : World) (hg : w.grownBy W none) => rtwice_calls _ _ norm x c W (hN1.grown0 hg) (hN2.grown0 hg) (by rw [hc]; exact fb4) (by rw [hc]; exact h.h4) (hT.ext hg)
  rw [h.t0] at hA
  rw [hc, h.t4] at hB
  rw [← hc] at hB
  have d1 := h.d1
  have d2 := h.d2
  have d3 := h.d3
  have d4 := h.d4
  have HQ := Lib.hid h.d5
  unfold NV at hS hR hA hB ⊢
  obtain ⟨N1, hn1⟩ : ∃ L, L = (words norm.m).length := ⟨_, rfl⟩
  obtain ⟨N2, hn2⟩ : ∃ L, L = (words x.m).length := ⟨_, rfl⟩
  simp only [← hn1, ← hn2] at hS hR hA hB ⊢
  have HS := Lib.hid hS
  have HR := Lib.hid hR
  have HA := Lib.hid hA
  have HB := Lib.hid hB
  have hmn : ((b : Int)).toNat = b := Int.toNat_natCast b
  have hmn4 : ((c : Int)).toNat = c := Int.toNat_natCast _
  have hbc : ((b : Int) + 4) = (c : Int) := by omega
  have hcb : c ≠ b := by omega
  have hmi : min (b : Int) 9218868437227405311 = (b : Int) := by omega
  have hmi4 : min (4 : Int) (9218868437227405311 - (b : Int)) = 4 := by omega
  have hltb : ((b : Int) < 9218868437227405311) = True := eq_true (by omega)
  have hltb4 : ((c : Int) < 9218868437227405311) = True := eq_true (by omega)
  have HH := Lib.hid hc
  clear hc
  clear hS hR hA hB hn1 hn2 hN1 hN2 k1 k2 hW1 hW2 h hT fb0 fb4
  go_enter Tryz.func88, Tryz.ntmps88
  go_upto_region 1 with fail
  obtain ⟨w3, hw3⟩ : ∃ w3, w3 = ((w.alloc (.cells #[.bool norm.neg, .slice A1 N1 c1, .int .i64 norm.e] 74)).alloc (.cells #[.bool x.neg, .slice A2 N2 c2, .int .i64 x.e] 74)) := ⟨_, rfl⟩
  have r0 : w3.heap[w.heap.size]? = some (.cells #[.bool norm.neg, .slice A1 N1 c1, .int .i64 norm.e] 74 (0, 0)) := by rw [hw3]; exact heap_old (heap_at rfl)
  have r1 : w3.heap[w.heap.size + 1]? = some (.cells #[.bool x.neg, .slice A2 N2 c2, .int .i64 x.e] 74 (0, 0)) := by rw [hw3]; exact heap_at (by simp)
  have hg3 : w.grownBy w3 none := by rw [hw3]; exact grown_trans (grown_alloc _ _ _) (grown_alloc _ _ _)
  rw [← hw3]
  have HG3 := Lib.hid hg3
  have KS : Hid (∀ w' : World, w3.grownBy w' none → w'.cell? ⟨w.heap.size, 0, none⟩ = some (.bool norm.neg) ∧ w'.cell? ⟨w.heap.size, 1, none⟩ = some (.slice A1 N1 c1) ∧ w'.cell? ⟨w.heap.size, 2, none⟩ = some (.int .i64 norm.e) ∧ w'.cell? ⟨w.heap.size + 1, 0, none⟩ = some (.bool x.neg) ∧ w'.cell? ⟨w.heap.size + 1, 1, none⟩ = some (.slice A2 N2 c2) ∧ w'.cell? ⟨w.heap.size + 1, 2, none⟩ = some (.int .i64 x.e) ∧ w3.grownBy w' none) := fun w' h => by
    obtain ⟨a, b, c⟩ := row3 (heap_grown r0 h)
    obtain ⟨d, e, f⟩ := row3 (heap_grown r1 h)
    exact ⟨a, b, c, d, e, f, h⟩
  have HA3 := Lib.hid (fun (W : World) (h : w3.grownBy W none) => HA.out W (grown_trans hg3 h))
  have HB3 := Lib.hid (fun (W : World) (h : w3.grownBy W none) => HB.out W (grown_trans hg3 h))
  obtain ⟨x0, x1, x2⟩ := row3 r0
  clear hw3 r0 r1 hg3 HA HB
  go_wp2_with fail
  refine (HS.out _ HG3.out).mono ?_
  rintro e3 w4 ⟨rfl, hg⟩
  obtain ⟨_, _, _, y0, y1, y2, _⟩ := KS.out _ hg
  have HG4 := Lib.hid hg
  clear hg x0 x1 x2
  go_wp2_with fail
  refine (HR.out _ (grown_trans HG3.out HG4.out)).mono ?_
  rintro e3 w5 ⟨rfl, hb⟩
  have HG5 := Lib.hid (grown_trans HG4.out (grown_of_below hb none))
  clear hb y0 y1 y2
  go_wp2_with fail
  refine (HQ.out _).mono ?_
  rintro e3 w6 ⟨rfl, rfl⟩
  go_wp2
  go_loopw [12, 14] (fun v12 v14 wr => v12 = .int .u64 b ∧ v14 = .int .u64 4 ∧ w3.grownBy wr none) (fun _ _ _ => 0)
  case atStart => exact ⟨rfl, rfl, HG5.out⟩
  case round =>
    obtain ⟨rfl, rfl, hgr⟩ := hrel
    have HGr := Lib.hid hgr
    obtain ⟨x0, x1, x2, y0, y1, y2, _⟩ := KS.out _ hgr
    clear hgr HG5
    go_upto_region 7 with fail
    go_region_held3 (fun w' : World => w'.cell? ⟨w.heap.size, 0, none⟩ = some (.bool norm.neg) ∧ w'.cell? ⟨w.heap.size, 1, none⟩ = some (.slice A1 N1 c1) ∧ w'.cell? ⟨w.heap.size, 2, none⟩ = some (.int .i64 norm.e) ∧ w'.cell? ⟨w.heap.size + 1, 0, none⟩ = some (.bool x.neg) ∧ w'.cell? ⟨w.heap.size + 1, 1, none⟩ = some (.slice A2 N2 c2) ∧ w'.cell? ⟨w.heap.size + 1, 2, none⟩ = some (.int .i64 x.e) ∧ w3.grownBy w' none)
      (first
        | with_reducible exact KS.out _ (grown_trans HGr.out (drew_grown' _))
        | with_reducible exact KS.out _ hGt)
      ((go_at_call 89; go_split_ands; refine (HA3.out _ (by assumption)).mono ?_; rintro e3 wt ⟨rfl, hg⟩; have hGt := grown_trans (show w3.grownBy _ none by assumption) hg; clear hg))
    all_goals
      have HG6 := Lib.hid hGt
      clear hGt HGr
      go_wp2
      go_loopw [13, 15] (fun v13 v15 wr => (∃ k : Nat, k ≤ 1 ∧ v13 = .int .u64 (if k = 1 then (b : Int) else (c : Int)) ∧ v15 = .int .u64 (if k = 1 then 4 else 64)) ∧ w3.grownBy wr none) (fun v13 _ _ => if intOf v13 = b then 1 else 0)
      case atStart => exact ⟨⟨1, by omega, rfl, rfl⟩, HG6.out⟩
      case round =>
        obtain ⟨⟨k, hk, rfl, rfl⟩, hgr⟩ := hrel
        have HGr := Lib.hid hgr
        obtain ⟨x0, x1, x2, y0, y1, y2, _⟩ := KS.out _ hgr
        rcases (show k = 1 ∨ k = 0 by omega) with rfl | rfl
        · simp only [if_true]
          clear hgr HG6 hk
          go_upto_region 11 with fail
          go_region_held3 (fun w' : World => w'.cell? ⟨w.heap.size, 0, none⟩ = some (.bool norm.neg) ∧ w'.cell? ⟨w.heap.size, 1, none⟩ = some (.slice A1 N1 c1) ∧ w'.cell? ⟨w.heap.size, 2, none⟩ = some (.int .i64 norm.e) ∧ w'.cell? ⟨w.heap.size + 1, 0, none⟩ = some (.bool x.neg) ∧ w'.cell? ⟨w.heap.size + 1, 1, none⟩ = some (.slice A2 N2 c2) ∧ w'.cell? ⟨w.heap.size + 1, 2, none⟩ = some (.int .i64 x.e) ∧ w3.grownBy w' none)
            (first
              | with_reducible exact KS.out _ (grown_trans HGr.out (drew_grown' _))
              | with_reducible exact KS.out _ hGt)
            ((go_at_call 89; go_split_ands; refine (HA3.out _ (by assumption)).mono ?_; rintro e3 wt ⟨rfl, hg⟩; have hGt := grown_trans (show w3.grownBy _ none by assumption) hg; clear hg))
          all_goals
            have HG7 := Lib.hid hGt
            clear hGt HGr
            go_wp2
            refine ⟨⟨⟨0, by omega, rfl, rfl⟩, HG7.out⟩, ?_⟩
            have e1 : ¬ (intOf (Value.int .u64 (c : Int)) = (b : Int)) := by show ¬ ((c : Int) = (b : Int)); omega
            have e2 : intOf (Value.int .u64 (b : Int)) = (b : Int) := rfl
            rw [if_neg e1, if_pos e2]
            decide
        · simp only [show ¬ (0 : Nat) = 1 by decide, if_false]
          clear hgr HG6 hk
          go_upto_region 11 with fail
          go_region_held3 (fun w' : World => w'.cell? ⟨w.heap.size, 0, none⟩ = some (.bool norm.neg) ∧ w'.cell? ⟨w.heap.size, 1, none⟩ = some (.slice A1 N1 c1) ∧ w'.cell? ⟨w.heap.size, 2, none⟩ = some (.int .i64 norm.e) ∧ w'.cell? ⟨w.heap.size + 1, 0, none⟩ = some (.bool x.neg) ∧ w'.cell? ⟨w.heap.size + 1, 1, none⟩ = some (.slice A2 N2 c2) ∧ w'.cell? ⟨w.heap.size + 1, 2, none⟩ = some (.int .i64 x.e) ∧ w3.grownBy w' none)
            (first
              | with_reducible exact KS.out _ (grown_trans HGr.out (drew_grown' _))
              | with_reducible exact KS.out _ hGt)
            ((go_at_call 89; go_split_ands; refine (HB3.out _ (by assumption)).mono ?_; rintro e3 wt ⟨rfl, hg⟩; have hGt := grown_trans (show w3.grownBy _ none by assumption) hg; clear hg))
          all_goals
            have HG7 := Lib.hid (grown_trans HG3.out hGt)
            clear hGt HGr
            go_wp2
            go_ret2
            exact ⟨rfl, HG7.out⟩
end Go.Proofs.YtjbdadhggejoiaaGreatDoor

namespace Go.Proofs.YtjbdadhggejoiaaGreatDoor
open Go.RowKit
set_option maxRecDepth 100000
attribute [local go_sem] run_frombits run_bits store_f store_c

set_option maxHeartbeats 4000000 in
theorem rnearest_calls (v1 v2 : Value) (norm x : Dy) (r s f s2 f2 sf b : Nat) (w : World) (h1 : DR w v1 norm) (h2 : DR w v2 x) (h : NearOk norm x r s f s2 f2 sf b) (hT : Tab w) :
    Calls Tryz.prog 51 #[v1, v2, .int .i64 2] w fun e w' => e = .returned (.float .f64 b) ∧ w.grownBy w' none := by
  obtain ⟨A1, c1, rfl, k1, m1, hW1⟩ := h1
  obtain ⟨A2, c2, rfl, k2, m2, hW2⟩ := h2
  have hN1 : DR w (NV norm.neg A1 (words norm.m).length c1 norm.e) norm := ⟨A1, c1, rfl, k1, m1, hW1⟩
  have hN2 : DR w (NV x.neg A2 (words x.m).length c2 x.e) x := ⟨A2, c2, rfl, k2, m2, hW2⟩
  have hbb := h.bb
  have fb0 : Fin64 b := (fin_of (by omega)).1
  have fb1 : Fin64 (b + 1) := (fin_of (by omega)).1
  have fb2 : Fin64 (b + 2) := (fin_of (by omega)).1
  have hR := fun (W : World) (hg : w.grownBy W none) => raround_calls _ _ norm x r s f s2 f2 sf b W (hN1.grown0 hg) (hN2.grown0 hg) h (hT.ext hg)
  obtain ⟨b4, hb4⟩ : ∃ c, c = b + 4 := ⟨_, rfl⟩
  rw [← hb4] at hR
  have hA := fun (W : World) (hg : w.grownBy W none) => rtwice_calls _ _ norm x b W (hN1.grown0 hg) (hN2.grown0 hg) fb0 h.h0 (hT.ext hg)
  have hB := fun (W : World) (hg : w.grownBy W none) => rtwice_calls _ _ norm x (b + 1) W (hN1.grown0 hg) (hN2.grown0 hg) fb1 h.h1 (hT.ext hg)
  have hC := fun (W : World) (hg : w.grownBy W none) => rtwice_calls _ _ norm x (b + 2) W (hN1.grown0 hg) (hN2.grown0 hg) fb2 h.h2 (hT.ext hg)
  rw [h.t0] at hA
  rw [h.t1] at hB
  rw [h.t2] at hC
  unfold NV at hR hA hB hC ⊢
  obtain ⟨N1, hn1⟩ : ∃ L, L = (words norm.m).length := ⟨_, rfl⟩
  obtain ⟨N2, hn2⟩ : ∃ L, L = (words x.m).length := ⟨_, rfl⟩
  simp only [← hn1, ← hn2] at hR hA hB hC ⊢
  obtain ⟨b1, hb1⟩ : ∃ c, c = b + 1 := ⟨_, rfl⟩
  obtain ⟨b2, hb2⟩ : ∃ c, c = b + 2 := ⟨_, rfl⟩
  rw [← hb1] at hB
  rw [← hb2] at hC
  have HR := Lib.hid hR
  have HA := Lib.hid hA
  have HB := Lib.hid hB
  have HC := Lib.hid hC
  have hmn : ((b : Int)).toNat = b := Int.toNat_natCast b
  have hmn1 : ((b1 : Int)).toNat = b1 := Int.toNat_natCast _
  have hmn2 : ((b2 : Int)).toNat = b2 := Int.toNat_natCast _
  have hm2 : ((b : Int) + ((b4 : Int) - (b : Int) + 1) / 2) = (b2 : Int) := by omega
  have hm1 : ((b : Int) + ((b1 : Int) - (b : Int) + 1) / 2) = (b1 : Int) := by omega
  have h21 : ((b2 : Int) - 1) = (b1 : Int) := by omega
  have h10 : ((b1 : Int) - 1) = (b : Int) := by omega
  have hl4 : ((b : Int) < (b4 : Int)) = True := eq_true (by omega)
  have hl1 : ((b : Int) < (b1 : Int)) = True := eq_true (by omega)
  have HE := Lib.hid (And.intro hb1 (And.intro hb2 hb4))
  clear hR hA hB hC hn1 hn2 hN1 hN2 k1 k2 hW1 hW2 h hT fb0 fb1 fb2 hb1 hb2 hb4
  go_enter Tryz.func51, Tryz.ntmps51
  go_upto_region 1 with fail
  obtain ⟨w3, hw3⟩ : ∃ w3, w3 = ((w.alloc (.cells #[.bool norm.neg, .slice A1 N1 c1, .int .i64 norm.e] 74)).alloc (.cells #[.bool x.neg, .slice A2 N2 c2, .int .i64 x.e] 74)) := ⟨_, rfl⟩
  have r0 : w3.heap[w.heap.size]? = some (.cells #[.bool norm.neg, .slice A1 N1 c1, .int .i64 norm.e] 74 (0, 0)) := by rw [hw3]; exact heap_old (heap_at rfl)
  have r1 : w3.heap[w.heap.size + 1]? = some (.cells #[.bool x.neg, .slice A2 N2 c2, .int .i64 x.e] 74 (0, 0)) := by rw [hw3]; exact heap_at (by simp)
  have hg3 : w.grownBy w3 none := by rw [hw3]; exact grown_trans (grown_alloc _ _ _) (grown_alloc _ _ _)
  rw [← hw3]
  have HG3 := Lib.hid hg3
  have KS : Hid (∀ w' : World, w3.grownBy w' none → w'.cell? ⟨w.heap.size, 0, none⟩ = some (.bool norm.neg) ∧ w'.cell? ⟨w.heap.size, 1, none⟩ = some (.slice A1 N1 c1) ∧ w'.cell? ⟨w.heap.size, 2, none⟩ = some (.int .i64 norm.e) ∧ w'.cell? ⟨w.heap.size + 1, 0, none⟩ = some (.bool x.neg) ∧ w'.cell? ⟨w.heap.size + 1, 1, none⟩ = some (.slice A2 N2 c2) ∧ w'.cell? ⟨w.heap.size + 1, 2, none⟩ = some (.int .i64 x.e) ∧ w3.grownBy w' none) := fun w' h => by
    obtain ⟨a, b, c⟩ := row3 (heap_grown r0 h)
    obtain ⟨d, e, f⟩ := row3 (heap_grown r1 h)
    exact ⟨a, b, c, d, e, f, h⟩
  have HA3 := Lib.hid (fun (W : World) (h : w3.grownBy W none) => HA.out W (grown_trans hg3 h))
  have HB3 := Lib.hid (fun (W : World) (h : w3.grownBy W none) => HB.out W (grown_trans hg3 h))
  have HC3 := Lib.hid (fun (W : World) (h : w3.grownBy W none) => HC.out W (grown_trans hg3 h))
  obtain ⟨x0, x1, x2⟩ := row3 r0
  obtain ⟨y0, y1, y2⟩ := row3 r1
  clear hw3 r0 r1 hg3 HA HB HC
  go_wp2_with fail
  refine (HR.out _ HG3.out).mono ?_
  rintro e3 w4 ⟨rfl, hg⟩
  have HG4 := Lib.hid hg
  clear hg x0 x1 x2 y0 y1 y2
  go_wp2
  go_loopw [7, 8] (fun v7 v8 wr => v7 = .int .u64 b ∧ (v8 = .int .u64 b4 ∨ v8 = .int .u64 b1 ∨ v8 = .int .u64 b) ∧ w3.grownBy wr none) (fun _ v8 _ => (intOf v8 - b).toNat)
  case atStart => exact ⟨rfl, .inl rfl, HG4.out⟩
  case round =>
    obtain ⟨rfl, h8, hgr⟩ := hrel
    have HGr := Lib.hid hgr
    obtain ⟨x0, x1, x2, y0, y1, y2, _⟩ := KS.out _ hgr
    rcases h8 with rfl | rfl | rfl
    · clear hgr HG4
      go_upto_region 4 with fail
      go_region_held3 (fun w' : World => w'.cell? ⟨w.heap.size, 0, none⟩ = some (.bool norm.neg) ∧ w'.cell? ⟨w.heap.size, 1, none⟩ = some (.slice A1 N1 c1) ∧ w'.cell? ⟨w.heap.size, 2, none⟩ = some (.int .i64 norm.e) ∧ w'.cell? ⟨w.heap.size + 1, 0, none⟩ = some (.bool x.neg) ∧ w'.cell? ⟨w.heap.size + 1, 1, none⟩ = some (.slice A2 N2 c2) ∧ w'.cell? ⟨w.heap.size + 1, 2, none⟩ = some (.int .i64 x.e) ∧ w3.grownBy w' none)
        (first
          | with_reducible exact KS.out _ (grown_trans HGr.out (drew_grown' _))
          | with_reducible exact KS.out _ hGt)
        ((go_at_call 89; go_split_ands; refine (HC3.out _ (by assumption)).mono ?_; rintro e3 wt ⟨rfl, hg⟩; have hGt := grown_trans (show w3.grownBy _ none by assumption) hg; clear hg))
      all_goals
        have HG6 := Lib.hid hGt
        clear hGt HGr
        go_wp2
        exact ⟨⟨rfl, .inr (.inl rfl), HG6.out⟩, by show ((b1 : Int) - b).toNat < ((b4 : Int) - b).toNat; have := HE.out; omega⟩
    · clear hgr HG4
      go_upto_region 4 with fail
      go_region_held3 (fun w' : World => w'.cell? ⟨w.heap.size, 0, none⟩ = some (.bool norm.neg) ∧ w'.cell? ⟨w.heap.size, 1, none⟩ = some (.slice A1 N1 c1) ∧ w'.cell? ⟨w.heap.size, 2, none⟩ = some (.int .i64 norm.e) ∧ w'.cell? ⟨w.heap.size + 1, 0, none⟩ = some (.bool x.neg) ∧ w'.cell? ⟨w.heap.size + 1, 1, none⟩ = some (.slice A2 N2 c2) ∧ w'.cell? ⟨w.heap.size + 1, 2, none⟩ = some (.int .i64 x.e) ∧ w3.grownBy w' none)
        (first
          | with_reducible exact KS.out _ (grown_trans HGr.out (drew_grown' _))
          | with_reducible exact KS.out _ hGt)
        ((go_at_call 89; go_split_ands; refine (HB3.out _ (by assumption)).mono ?_; rintro e3 wt ⟨rfl, hg⟩; have hGt := grown_trans (show w3.grownBy _ none by assumption) hg; clear hg))
      all_goals
        have HG6 := Lib.hid hGt
        clear hGt HGr
        go_wp2
        exact ⟨⟨rfl, .inr (.inr rfl), HG6.out⟩, by show ((b : Int) - b).toNat < ((b1 : Int) - b).toNat; have := HE.out; omega⟩
    · have HAr := Lib.hid (HA3.out _ hgr)
      clear hgr HG4
      go_wp2_with fail
      refine HAr.out.mono ?_
      rintro e3 w7 ⟨rfl, hg⟩
      have HF := Lib.hid (grown_trans HG3.out (grown_trans HGr.out hg))
      clear hg
      go_wp2
      go_ret
      exact ⟨rfl, HF.out⟩
end Go.Proofs.YtjbdadhggejoiaaGreatDoor

namespace Go.Proofs.YtjbdadhggejoiaaGreatDoor
open Go.RowKit
set_option maxRecDepth 100000
attribute [local go_sem] run_frombits run_bits store_f store_c run_neg

theorem max_gt (x : Nat) (h : Ieee.double.order x 0 = some .gt) (ts : Array TypeId) (t : TypeId) (w : World) : (Builtin.max_ ts t #[.float .f64 x, .float .f64 0]).run Tryz.prog w = .ok (.float .f64 x) w := by
  have h' : FloatKind.f64.format.order x 0 = some .gt := h
  simp [Builtin.max_, Builtin.max2, h']
theorem max_lt (x : Nat) (h : Ieee.double.order x 0 = some .lt) (ts : Array TypeId) (t : TypeId) (w : World) : (Builtin.max_ ts t #[.float .f64 x, .float .f64 0]).run Tryz.prog w = .ok (.float .f64 0) w := by
  have h' : FloatKind.f64.format.order x 0 = some .lt := h
  simp [Builtin.max_, Builtin.max2, h']
theorem neg_eq {x : Nat} (h : x < 9223372036854775808) : Op.negFloat .f64 x = x + 9223372036854775808 := by
  show x ^^^ 2 ^ 63 = _
  rw [Nat.xor_comm]
  have h1 := Nat.two_pow_add_eq_or_of_lt (i := 63) (b := x) h 1
  rw [Nat.mul_one] at h1
  rw [show (9223372036854775808 : Nat) = 2 ^ 63 from rfl, Nat.add_comm, h1]
  apply Nat.eq_of_testBit_eq
  intro i
  rw [Nat.testBit_xor, Nat.testBit_or, Nat.testBit_two_pow]
  by_cases hi : 63 = i
  · subst hi
    have : x.testBit 63 = false := Nat.testBit_lt_two_pow h
    simp [this]
  · simp [hi]
theorem neg_neg' {x : Nat} (h : x < 9223372036854775808) : Op.negFloat .f64 (x + 9223372036854775808) = x := by
  rw [← neg_eq h]
  show (x ^^^ 2 ^ 63) ^^^ 2 ^ 63 = x
  rw [Nat.xor_assoc, Nat.xor_self, Nat.xor_zero]
theorem fin_neg {x : Nat} (h : x < 9218868437227405312) : Fin64 (x + 9223372036854775808) := ⟨by omega, by omega⟩
theorem fm_pos {x : Nat} (h0 : 0 < x) (h : x < 9218868437227405312) : fm x ≠ 0 := by
  unfold fm
  split <;> omega
theorem order_posz {x : Nat} (h0 : 0 < x) (h : x < 9218868437227405312) : Ieee.double.order x 0 = some .gt := by
  rw [order_pos h (by decide), if_neg (by omega), if_neg (by omega)]
theorem order_negz {x : Nat} (h0 : 0 < x) (h : x < 9218868437227405312) : Ieee.double.order (x + 9223372036854775808) 0 = some .lt := by
  have hm := fm_pos h0 h
  have e1 : fm (x + 9223372036854775808) = fm x := by unfold fm; rw [show (x + 9223372036854775808) / 4503599627370496 % 2048 = x / 4503599627370496 % 2048 by omega, show (x + 9223372036854775808) % 4503599627370496 = x % 4503599627370496 by omega]
  have e2 : fneg (x + 9223372036854775808) = true := by unfold fneg; rw [beq_iff_eq]; omega
  unfold Ieee.Format.order
  rw [read_fin (fin_neg h), read_fin (show Fin64 0 from ⟨by decide, by decide⟩), e1, e2, show fneg 0 = false from rfl, show fm 0 = 0 from rfl]
  simp only [Ieee.Datum.order, Ieee.signed, if_true, Bool.false_eq_true, if_false, Nat.zero_shiftLeft, Option.some.injEq, Nat.shiftLeft_eq]
  obtain ⟨k, hk⟩ : ∃ k, (fe (x + 9223372036854775808) - min (fe (x + 9223372036854775808)) (fe 0)).toNat = k := ⟨_, rfl⟩
  rw [hk]
  have := Nat.mul_pos (Nat.pos_of_ne_zero hm) (Nat.two_pow_pos k)
  exact icmp_lt (by omega)
theorem ofF_neg {x : Nat} (h : x < 9218868437227405312) (h0 : 0 < x) : (ofF x).neg = false ∧ (ofF x).m ≠ 0 := by
  have hm := fm_pos h0 h
  have hn : fneg x = false := (fin_of h).2
  unfold ofF
  rw [hn]
  have e : sg false (fm x) = (fm x : Int) := rfl
  rw [e]
  unfold dnorm
  rw [if_neg (by omega)]
  refine ⟨by simp, ?_⟩
  show (fm x : Int).natAbs / 2 ^ tz (fm x : Int).natAbs ≠ 0
  rw [Int.natAbs_natCast]
  have := (tz_spec hm).2
  omega
set_option maxHeartbeats 1000000 in
theorem rpart_pos (x y r mode : Nat) (w : World) (h0 : 0 < x) (h1 : x < 9218868437227405312) (hy : (Ieee.double.order y 0 == some .eq) = true) (hs : SqOk (ofF x).m r (ofF x).e) (hmode : 1 ≤ mode ∧ mode ≤ 3) (hT : Tab w) :
    Calls Tryz.prog 19 #[.float .f64 x, .float .f64 y, .int .i64 mode] w fun e w' => e = .returned (.float .f64 (sqrtF (ofF x).m r (ofF x).e mode)) ∧ w.grownBy w' none := by
  have fx := (fin_of h1).1
  have ox := ofF_ok fx
  have hn := (ofF_neg h1 h0).1
  have g1 : (FloatKind.f64.format.order y 0 == some Ordering.eq) = true := hy
  have hmx := fun W => max_gt x (order_posz h0 h1) #[22, 22] 22 W
  have H4 := Lib.hid (fun W (h : Tab W) => rexact_calls x W fx h)
  obtain ⟨p, hp⟩ : ∃ p, p = ofF x := ⟨_, rfl⟩
  simp only [← hp] at *
  have H5 := Lib.hid (fun W (v1 : Value) (h1 : DR W v1 p) => droot_calls v1 p r mode W h1 ox hn hs hmode)
  obtain ⟨R, hR⟩ : ∃ R, R = sqrtF p.m r p.e mode := ⟨_, rfl⟩
  simp only [← hR] at *
  clear hR hp hs hn ox fx h0 h1 hmode hy
  go_enter Tryz.func19, Tryz.ntmps19
  go_wp2_with fail
  refine (H4.out _ hT).mono ?_
  rintro e3 w1 ⟨va, rfl, hda, hba⟩
  have HG1 := Lib.hid (grown_of_below hba none)
  have KA := Lib.hid hda
  clear hT hda hba
  go_wp2_with fail
  refine (H5.out _ _ KA.out).mono ?_
  rintro e3 w2 ⟨rfl, hg⟩
  have HG2 := Lib.hid (grown_trans HG1.out hg)
  clear hg
  go_wp2
  go_ret
  exact ⟨rfl, HG2.out⟩
set_option maxHeartbeats 1000000 in
theorem rpart_neg (x y mode : Nat) (w : World) (hx : Ieee.double.order x 0 = some .lt) (hy : (Ieee.double.order y 0 == some .eq) = true) (hmode : 1 ≤ mode ∧ mode ≤ 3) (hT : Tab w) :
    Calls Tryz.prog 19 #[.float .f64 x, .float .f64 y, .int .i64 mode] w fun e w' => e = .returned (.float .f64 0) ∧ w.grownBy w' none := by
  have f0 : Fin64 0 := ⟨by decide, by decide⟩
  have g1 : (FloatKind.f64.format.order y 0 == some Ordering.eq) = true := hy
  have hmx := fun W => max_lt x hx #[22, 22] 22 W
  have h4 := fun W (h : Tab W) => rexact_calls 0 W f0 h
  rw [show ofF 0 = ⟨false, 0, 0⟩ from rfl] at h4
  have H4 := Lib.hid h4
  have H5 := Lib.hid (fun W (v1 : Value) (h1 : DR W v1 ⟨false, 0, 0⟩) => dsqrt_zero v1 mode W h1 hmode)
  clear h4 f0 hmode hy hx
  go_enter Tryz.func19, Tryz.ntmps19
  go_wp2_with fail
  refine (H4.out _ hT).mono ?_
  rintro e3 w1 ⟨va, rfl, hda, hba⟩
  have HG1 := Lib.hid (grown_of_below hba none)
  have KA := Lib.hid hda
  clear hT hda hba
  go_wp2_with fail
  refine (H5.out _ _ KA.out).mono ?_
  rintro e3 w2 ⟨rfl, hb⟩
  have HG2 := Lib.hid (grown_trans HG1.out (grown_of_below hb none))
  clear hb
  go_wp2
  go_ret
  exact ⟨rfl, HG2.out⟩
end Go.Proofs.YtjbdadhggejoiaaGreatDoor

namespace Go.Proofs.YtjbdadhggejoiaaGreatDoor
open Go.RowKit
set_option maxRecDepth 100000
theorem run_sqrt4 (w : World) : (callFunc 150 #[.float .f64 4616189618054758400]).run Tryz.prog w = .ok (.value (.float .f64 4611686018427387904)) w := by kernel_rfl
theorem run_sqrt1 (w : World) : (callFunc 150 #[.float .f64 4607182418800017408]).run Tryz.prog w = .ok (.value (.float .f64 4607182418800017408)) w := by kernel_rfl
attribute [local go_sem] run_frombits run_bits store_f store_c run_neg run_sqrt4 run_sqrt1
theorem msqrt4 (w : World) : Calls Tryz.prog 123 #[.float .f64 4616189618054758400] w fun e w' => e = .returned (.float .f64 4611686018427387904) ∧ w = w' := by
  go_enter Tryz.func123, Tryz.ntmps123
  go_wp2
  go_ret
  exact ⟨rfl, rfl⟩
theorem msqrt1 (w : World) : Calls Tryz.prog 123 #[.float .f64 4607182418800017408] w fun e w' => e = .returned (.float .f64 4607182418800017408) ∧ w = w' := by
  go_enter Tryz.func123, Tryz.ntmps123
  go_wp2
  go_ret
  exact ⟨rfl, rfl⟩
def d25 : Dy := ⟨false, 25, 0⟩
def d3 : Dy := ⟨false, 3, 0⟩
def dm3 : Dy := ⟨true, 3, 0⟩
theorem ok_of {d : Dy} (h : d.m % 2 = 1) (hl : d.m < 4294967296 ^ 64) (he : -65536 ≤ d.e ∧ d.e ≤ 65536) : d.ok := .inr ⟨h, Nat.le_trans (words_len_lt hl) (by decide), he.1, he.2⟩
theorem near3 : NearOk d25 d3 (5 * 2 ^ 62) 4617315517961601024 4613937818241073152 4612811918334230528 4609434218613702656 4616189618054758400 4611686018427387904 := {
  no := ok_of (by decide) (by decide +kernel) (by decide)
  xo := ok_of (by decide) (by decide +kernel) (by decide)
  nn := rfl
  sq := ⟨by decide, by decide +kernel, by decide +kernel, by decide, by decide +kernel, by decide +kernel⟩
  se := by decide +kernel
  xm := ⟨by decide, by decide +kernel, by decide +kernel⟩
  xe := by decide +kernel
  d1 := fun _ => by kernel_rfl
  d2 := fun _ => by kernel_rfl
  d3 := fun _ => by kernel_rfl
  d4 := fun _ => by kernel_rfl
  d5 := fun W => msqrt4 W
  bb := by decide
  t0 := by decide +kernel
  t1 := by decide +kernel
  t2 := by decide +kernel
  t4 := by decide +kernel
  h0 := ⟨ok_of (by decide) (by decide +kernel) (by decide), ok_of (by decide) (by decide +kernel) (by decide), ok_of (by decide +kernel) (by decide +kernel) (by decide +kernel), ok_of (by decide +kernel) (by decide +kernel) (by decide +kernel), .inr (.inr (by decide +kernel)), ok_of (by decide +kernel) (by decide +kernel) (by decide +kernel), ok_of (by decide +kernel) (by decide +kernel) (by decide +kernel)⟩
  h1 := ⟨ok_of (by decide) (by decide +kernel) (by decide), ok_of (by decide) (by decide +kernel) (by decide), ok_of (by decide +kernel) (by decide +kernel) (by decide +kernel), ok_of (by decide +kernel) (by decide +kernel) (by decide +kernel), .inr (.inr (by decide +kernel)), ok_of (by decide +kernel) (by decide +kernel) (by decide +kernel), ok_of (by decide +kernel) (by decide +kernel) (by decide +kernel)⟩
  h2 := ⟨ok_of (by decide) (by decide +kernel) (by decide), ok_of (by decide) (by decide +kernel) (by decide), ok_of (by decide +kernel) (by decide +kernel) (by decide +kernel), ok_of (by decide +kernel) (by decide +kernel) (by decide +kernel), .inr (.inr (by decide +kernel)), ok_of (by decide +kernel) (by decide +kernel) (by decide +kernel), ok_of (by decide +kernel) (by decide +kernel) (by decide +kernel)⟩
  h4 := ⟨ok_of (by decide) (by decide +kernel) (by decide), ok_of (by decide) (by decide +kernel) (by decide), ok_of (by decide +kernel) (by decide +kernel) (by decide +kernel), ok_of (by decide +kernel) (by decide +kernel) (by decide +kernel), .inr (.inr (by decide +kernel)), ok_of (by decide +kernel) (by decide +kernel) (by decide +kernel), ok_of (by decide +kernel) (by decide +kernel) (by decide +kernel)⟩ }
theorem nearm3 : NearOk d25 dm3 (5 * 2 ^ 62) 4617315517961601024 13837309855095848960 4612811918334230528 13832806255468478464 4607182418800017408 4607182418800017408 := {
  no := ok_of (by decide) (by decide +kernel) (by decide)
  xo := ok_of (by decide) (by decide +kernel) (by decide)
  nn := rfl
  sq := ⟨by decide, by decide +kernel, by decide +kernel, by decide, by decide +kernel, by decide +kernel⟩
  se := by decide +kernel
  xm := ⟨by decide, by decide +kernel, by decide +kernel⟩
  xe := by decide +kernel
  d1 := fun _ => by kernel_rfl
  d2 := fun _ => by kernel_rfl
  d3 := fun _ => by kernel_rfl
  d4 := fun _ => by kernel_rfl
  d5 := fun W => msqrt1 W
  bb := by decide
  t0 := by decide +kernel
  t1 := by decide +kernel
  t2 := by decide +kernel
  t4 := by decide +kernel
  h0 := ⟨ok_of (by decide) (by decide +kernel) (by decide), ok_of (by decide) (by decide +kernel) (by decide), ok_of (by decide +kernel) (by decide +kernel) (by decide +kernel), ok_of (by decide +kernel) (by decide +kernel) (by decide +kernel), .inr (.inr (by decide +kernel)), ok_of (by decide +kernel) (by decide +kernel) (by decide +kernel), ok_of (by decide +kernel) (by decide +kernel) (by decide +kernel)⟩
  h1 := ⟨ok_of (by decide) (by decide +kernel) (by decide), ok_of (by decide) (by decide +kernel) (by decide), ok_of (by decide +kernel) (by decide +kernel) (by decide +kernel), ok_of (by decide +kernel) (by decide +kernel) (by decide +kernel), .inr (.inr (by decide +kernel)), ok_of (by decide +kernel) (by decide +kernel) (by decide +kernel), ok_of (by decide +kernel) (by decide +kernel) (by decide +kernel)⟩
  h2 := ⟨ok_of (by decide) (by decide +kernel) (by decide), ok_of (by decide) (by decide +kernel) (by decide), ok_of (by decide +kernel) (by decide +kernel) (by decide +kernel), ok_of (by decide +kernel) (by decide +kernel) (by decide +kernel), .inr (.inr (by decide +kernel)), ok_of (by decide +kernel) (by decide +kernel) (by decide +kernel), ok_of (by decide +kernel) (by decide +kernel) (by decide +kernel)⟩
  h4 := ⟨ok_of (by decide) (by decide +kernel) (by decide), ok_of (by decide) (by decide +kernel) (by decide), ok_of (by decide +kernel) (by decide +kernel) (by decide +kernel), ok_of (by decide +kernel) (by decide +kernel) (by decide +kernel), .inr (.inr (by decide +kernel)), ok_of (by decide +kernel) (by decide +kernel) (by decide +kernel), ok_of (by decide +kernel) (by decide +kernel) (by decide +kernel)⟩ }
end Go.Proofs.YtjbdadhggejoiaaGreatDoor

namespace Go.Proofs.YtjbdadhggejoiaaGreatDoor
open Go.RowKit
set_option maxRecDepth 100000
attribute [local go_sem] run_frombits run_bits store_f store_c run_neg

structure PartOk (x y : Nat) (dx dy q1 q2 norm : Dy) : Prop where
  fx : Fin64 x
  fy : Fin64 y
  ny : (Ieee.double.order y 0 == some .eq) = false
  ex : ofF x = dx
  ey : ofF y = dy
  s1 : dsqr dx = q1
  s2 : dsqr dy = q2
  a : dadd q1 q2 = norm
  o1 : q1.ok
  o2 : q2.ok
  f : notFar q1 q2
  on : norm.ok
set_option maxHeartbeats 4000000 in
theorem rpart_off (x y : Nat) (dx dy q1 q2 norm : Dy) (r s f s2 f2 sf b : Nat) (w : World) (hp : PartOk x y dx dy q1 q2 norm) (h : NearOk norm dx r s f s2 f2 sf b) (hT : Tab w) :
    Calls Tryz.prog 19 #[.float .f64 x, .float .f64 y, .int .i64 2] w fun e w' => e = .returned (.float .f64 b) ∧ w.grownBy w' none := by
  obtain ⟨fx, fy, ny, ex, ey, e1, e2, ea, o1, o2, hf, on⟩ := hp
  have ox := ofF_ok fx
  have oy := ofF_ok fy
  rw [ex] at ox
  rw [ey] at oy
  have g1 : (FloatKind.f64.format.order y 0 == some Ordering.eq) = false := ny
  have hX := fun W (h : Tab W) => rexact_calls x W fx h
  have hY := fun W (h : Tab W) => rexact_calls y W fy h
  rw [ex] at hX
  rw [ey] at hY
  have HX := Lib.hid hX
  have HY := Lib.hid hY
  have hM1 := fun (W : World) (v u : Value) (hT : Tab W) (hv : DR W v dx) (hu : DR W u dx) => dmul_calls v u dx dx W hv ox hu ox (by show (dsqr dx).ok; rw [e1]; exact o1) hT
  have hM2 := fun (W : World) (v u : Value) (hT : Tab W) (hv : DR W v dy) (hu : DR W u dy) => dmul_calls v u dy dy W hv oy hu oy (by show (dsqr dy).ok; rw [e2]; exact o2) hT
  have q1e : dnorm (dx.z * dx.z) (dx.e + dx.e) = q1 := e1
  have q2e : dnorm (dy.z * dy.z) (dy.e + dy.e) = q2 := e2
  simp only [q1e] at hM1
  simp only [q2e] at hM2
  have hA := fun (W : World) (v u : Value) (hT : Tab W) (hv : DR W v q1) (hu : DR W u q2) => dadd_calls v u q1 q2 W hv o1 hu o2 hf (by rw [ea]; exact on) hT
  rw [ea] at hA
  have HM1 := Lib.hid hM1
  have HM2 := Lib.hid hM2
  have HA := Lib.hid hA
  have HN := Lib.hid (fun (W : World) (v u : Value) (hT : Tab W) (hv : DR W v norm) (hu : DR W u dx) => rnearest_calls v u norm dx r s f s2 f2 sf b W hv hu h hT)
  clear hX hY hM1 hM2 hA q1e q2e fx fy ny ex ey e1 e2 ea o1 o2 hf on ox oy h
  go_enter Tryz.func19, Tryz.ntmps19
  have HT0 := Lib.hid hT
  have HTT := Lib.hid hT
  clear hT
  go_wp2_with fail
  refine (HX.out _ HT0.out).mono ?_
  rintro e3 w1 ⟨va, rfl, hda, hba⟩
  have hg := grown_of_below hba none
  have HT1 := Lib.hid (HT0.out.ext hg)
  have KA := Lib.hid hda
  have HG1 := Lib.hid hg
  clear hg hda hba HT0
  go_wp2_with fail
  refine (HX.out _ HT1.out).mono ?_
  rintro e3 w2 ⟨vb, rfl, hdb, hbb⟩
  have hg := grown_of_below hbb none
  have HT2 := Lib.hid (HT1.out.ext hg)
  have KA2 := Lib.hid (KA.out.grown0 hg)
  have KB := Lib.hid hdb
  have HG2 := Lib.hid (grown_trans HG1.out hg)
  clear hg hdb hbb HT1 KA HG1
  go_wp2_with fail
  refine (HM1.out _ _ _ HT2.out KA2.out KB.out).mono ?_
  rintro e3 w3 ⟨vc, rfl, ⟨A1, c1, rfl, k1, m1, hW1⟩, hbc⟩
  have hN1 : DR w3 (NV q1.neg A1 (words q1.m).length c1 q1.e) q1 := ⟨A1, c1, rfl, k1, m1, hW1⟩
  have hg := grown_of_below hbc none
  obtain ⟨w4, hw4⟩ : ∃ w4, w4 = w3.alloc (.cells #[.bool q1.neg, .slice A1 (words q1.m).length c1, .int .i64 q1.e] 74) := ⟨_, rfl⟩
  have hg34 : w3.grownBy w4 none := by rw [hw4]; exact grown_alloc _ _ _
  have r4 : w4.heap[w3.heap.size]? = some (.cells #[.bool q1.neg, .slice A1 (words q1.m).length c1, .int .i64 q1.e] 74 (0, 0)) := by rw [hw4]; exact heap_alloc_new w3 _
  have HT4 := Lib.hid (HT2.out.ext (grown_trans hg hg34))
  have HG4 := Lib.hid (grown_trans HG2.out (grown_trans hg hg34))
  have HN4 := Lib.hid (hN1.grown0 hg34)
  have HS3 := Lib.hid (grown_trans HG2.out hg).size
  unfold NV at HN4 ⊢
  obtain ⟨N1, hn1⟩ : ∃ L, L = (words q1.m).length := ⟨_, rfl⟩
  rw [← hn1] at HN4 r4 hw4 ⊢
  have HR4 := Lib.hid r4
  have HW4 := Lib.hid hw4
  clear hn1 hw4 r4 hg34 hg hN1 k1 m1 hW1 hbc HT2 KA2 KB HG2 HM1
  go_upto_region 5 with fail
  rw [← HW4.out]
  clear HW4
  go_wp2_with fail
  refine (HY.out _ HT4.out).mono ?_
  rintro e3 w5 ⟨va, rfl, hda, hba⟩
  have hg := grown_of_below hba none
  have HT5 := Lib.hid (HT4.out.ext hg)
  have KA := Lib.hid hda
  have HG5 := Lib.hid hg
  clear hg hda hba HT4
  go_wp2_with fail
  refine (HY.out _ HT5.out).mono ?_
  rintro e3 w6 ⟨vb, rfl, hdb, hbb⟩
  have hg := grown_of_below hbb none
  have HT6 := Lib.hid (HT5.out.ext hg)
  have KA2 := Lib.hid (KA.out.grown0 hg)
  have KB := Lib.hid hdb
  have HG6 := Lib.hid (grown_trans HG5.out hg)
  clear hg hdb hbb HT5 KA HG5
  go_wp2_with fail
  refine (HM2.out _ _ _ HT6.out KA2.out KB.out).mono ?_
  rintro e3 w7 ⟨vc, rfl, ⟨A2, c2, rfl, k2, m2, hW2⟩, hbc⟩
  have hN2 : DR w7 (NV q2.neg A2 (words q2.m).length c2 q2.e) q2 := ⟨A2, c2, rfl, k2, m2, hW2⟩
  have hg := grown_of_below hbc none
  obtain ⟨w8, hw8⟩ : ∃ w8, w8 = w7.alloc (.cells #[.bool q2.neg, .slice A2 (words q2.m).length c2, .int .i64 q2.e] 74) := ⟨_, rfl⟩
  have hg78 : w7.grownBy w8 none := by rw [hw8]; exact grown_alloc _ _ _
  have r8 : w8.heap[w7.heap.size]? = some (.cells #[.bool q2.neg, .slice A2 (words q2.m).length c2, .int .i64 q2.e] 74 (0, 0)) := by rw [hw8]; exact heap_alloc_new w7 _
  have hg48 := grown_trans HG6.out (grown_trans hg hg78)
  have HT8 := Lib.hid (HT6.out.ext (grown_trans hg hg78))
  have HG8 := Lib.hid (grown_trans HG4.out hg48)
  have HN8 := Lib.hid (hN2.grown0 hg78)
  have HN48 := Lib.hid (DR.grown0 HN4.out hg48)
  have r48 := heap_grown HR4.out hg48
  have T8 : Hid (Three w8 w3.heap.size) := ⟨_, _, _, _, _, _, r48⟩
  unfold NV at HN8 ⊢
  obtain ⟨N2, hn2⟩ : ∃ L, L = (words q2.m).length := ⟨_, rfl⟩
  rw [← hn2] at HN8 r8 hw8 ⊢
  obtain ⟨x0, x1, x2⟩ := row3 r48
  obtain ⟨y0, y1, y2⟩ := row3 r8
  have HAd := Lib.hid (HA.out w8 _ _ HT8.out HN48.out HN8.out)
  have HW8 := Lib.hid hw8
  clear hn2 hw8 r8 r48 hg78 hg hg48 hN2 k2 m2 hW2 hbc HT6 KA2 KB HG6 HM2 HN4 HR4 HY HA HN8 HN48
  go_upto_region 6 with fail
  rw [← HW8.out]
  clear HW8
  go_wp2_with fail
  refine HAd.out.mono ?_
  rintro e3 w9 ⟨vd, rfl, ⟨A3, c3, rfl, k3, m3, hW3⟩, hbd⟩
  have hN3 : DR w9 (NV norm.neg A3 (words norm.m).length c3 norm.e) ⟨norm.neg, norm.m, norm.e⟩ := ⟨A3, c3, rfl, k3, m3, hW3⟩
  have hg9 := grown_of_below hbd none
  have T9 := T8.out.grown hg9 (by simp)
  have hs3 : w.heap.size ≤ w3.heap.size := HS3.out
  have hV := VarN.set (w3 := w) T9 hN3 (grown_trans HG8.out hg9) hs3
  obtain ⟨p1, p2, p3, p4, p5, x0, x1, x2, f0, f1, f2⟩ := T9.open
  obtain ⟨w10, hw10⟩ : ∃ w10, w10 = ((w9.setCell ⟨w3.heap.size, 0, none⟩ (.bool norm.neg)).setCell ⟨w3.heap.size, 1, none⟩ (.slice A3 (words norm.m).length c3)).setCell ⟨w3.heap.size, 2, none⟩ (.int .i64 norm.e) := ⟨_, rfl⟩
  rw [← hw10] at hV
  obtain ⟨tt, hr10, hN10, hg10⟩ := hV
  have hT10 : Tab w10 := HTT.out.ext hg10
  unfold NV at hN10 ⊢
  obtain ⟨N3, hn3⟩ : ∃ L, L = (words norm.m).length := ⟨_, rfl⟩
  rw [← hn3] at hN10 hr10 hw10 ⊢
  have KS : Hid (∀ w' : World, w10.grownBy w' none → w'.cell? ⟨w3.heap.size, 0, none⟩ = some (.bool norm.neg) ∧ w'.cell? ⟨w3.heap.size, 1, none⟩ = some (.slice A3 N3 c3) ∧ w'.cell? ⟨w3.heap.size, 2, none⟩ = some (.int .i64 norm.e) ∧ w10.grownBy w' none ∧ Tab w') := fun w' h => by
    obtain ⟨a, b, c⟩ := row3 (heap_grown hr10 h)
    exact ⟨a, b, c, h, hT10.ext h⟩
  have HN10 := Lib.hid (fun (W : World) (h : w10.grownBy W none) => DR.grown0 hN10 h)
  have HW10 := Lib.hid hw10
  have HG10 := Lib.hid hg10
  clear hn3 hw10 hr10 hg10 hT10 hN10 hN3 k3 m3 hW3 hbd hg9 T9 HAd T8 HT8 y0 y1 y2
  go_upto_region 7 with fail
  rw [← HW10.out]
  clear HW10 x0 x1 x2 f0 f1 f2
  go_region_held3 (fun w' : World => w'.cell? ⟨w3.heap.size, 0, none⟩ = some (.bool norm.neg) ∧ w'.cell? ⟨w3.heap.size, 1, none⟩ = some (.slice A3 N3 c3) ∧ w'.cell? ⟨w3.heap.size, 2, none⟩ = some (.int .i64 norm.e) ∧ w10.grownBy w' none ∧ Tab w')
    (first
      | with_reducible exact KS.out _ (drew_grown' _)
      | with_reducible exact KS.out _ hGb
      | with_reducible exact KS.out _ hGa)
    (first
      | (go_at_call 48; go_split_ands; refine (HX.out _ (by assumption)).mono ?_; rintro e3 wa ⟨vx, rfl, hdx, hbx⟩; have hga := grown_of_below hbx none; have hGa := grown_trans (show w10.grownBy _ none by assumption) hga; have KX := Lib.hid hdx; clear hdx hbx)
      | (go_at_call 51; go_split_ands; refine (HN.out _ _ _ (by assumption) (HN10.out _ (by assumption)) KX.out).mono ?_; rintro e3 wb ⟨rfl, hgb⟩; have hGb := grown_trans (show w10.grownBy _ none by assumption) hgb; clear hgb))
  all_goals
    have HF := Lib.hid (grown_trans HG10.out hGb)
    go_wp2
    go_ret
    exact ⟨rfl, HF.out⟩
end Go.Proofs.YtjbdadhggejoiaaGreatDoor
