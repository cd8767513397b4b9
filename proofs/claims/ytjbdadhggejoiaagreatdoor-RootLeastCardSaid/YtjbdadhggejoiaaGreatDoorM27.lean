/- balls: whether a value lies in one; on the ray.
   roundings: valid modes, sums, quotients, roots.
   roundings: sums and differences.
   roundings: differences, roots, magnitudes, quotients.
   balls: plain, fit, on the ray, grown.
   balls: the least magnitude, told by a closure.
   balls: the least magnitude of the ball that is tried.
   balls: the magnitudes of the ball that is tried. -/
import Derived.Test.YtjbdadhggejoiaaGreatDoorM26
import Derived.Test.YtjbdadhggejoiaaGreatDoorM23

namespace Go.Proofs.YtjbdadhggejoiaaGreatDoor
open Go.RowKit
set_option maxRecDepth 100000

def hasB (x y r u v : Nat) : Bool := decide (dcmp (apartD x y u v) (dsqr (ofF r)) ≤ 0)
set_option maxHeartbeats 4000000 in
theorem bhas_calls (x y r u v : Nat) (w : World) (h : ApartOk x y u v) (hr : Fin64 r) (hrn : fneg r = false) (hs : (dsqr (ofF r)).ok) (hT : Tab w) :
    Calls Tryz.prog 62 #[BV x y r, .complex .f64 u v] w fun e w' => e = .returned (.bool (hasB x y r u v)) ∧ w.grownBy w' none := by
  have hval := fun W => valid_calls x y r W h.fx h.fy hr
  rw [hrn] at hval
  have hw := fun W => whole_calls x y r W (nf_fin h.fx) (nf_fin h.fy) (nf_fin hr)
  have hne : ¬ r = 9218868437227405312 := fun e => by subst e; exact absurd hr.2 (by decide)
  rw [decide_eq_false hne, Bool.and_false] at hw
  have H1 := Lib.hid hval
  have H2 := Lib.hid (fun W => finite_calls u W h.fu)
  have H3 := Lib.hid (fun W => finite_calls v W h.fv)
  have H4 := Lib.hid hw
  have hok := h.k
  have hor := ofF_ok hr
  have H5 := Lib.hid (fun W (hT : Tab W) => bapart_calls x y u v W h hT)
  have H6 := Lib.hid (fun W (hT : Tab W) => bnum_calls r W hr hT)
  have eB : hasB x y r u v = decide (dcmp (apartD x y u v) (dsqr (ofF r)) ≤ 0) := rfl
  obtain ⟨a, ha⟩ : ∃ a, a = ofF r := ⟨_, rfl⟩
  simp only [← ha] at H6 hor hs eB
  have H7 := Lib.hid (fun W (v1 : Value) (h1 : DR W v1 a) (h : Tab W) => bsqr_calls v1 a W h1 hor hs h)
  obtain ⟨q, hq⟩ : ∃ q, q = dsqr a := ⟨_, rfl⟩
  simp only [← hq] at H7 hs eB
  obtain ⟨p, hp⟩ : ∃ p, p = apartD x y u v := ⟨_, rfl⟩
  simp only [← hp] at H5 hok eB
  have H8 := Lib.hid (fun W (v1 v2 : Value) (h1 : DR W v1 p) (h2 : DR W v2 q) => dcmp_calls v1 v2 p q W h1 hok h2 hs)
  obtain ⟨c, hc⟩ : ∃ c, c = dcmp p q := ⟨_, rfl⟩
  simp only [← hc] at H8 eB
  rw [eB]
  clear hval hw hne h hr hrn hs hok hor ha hq hp hc eB
  unfold BV at H1 H4 ⊢
  go_enter Tryz.func62, Tryz.ntmps62
  have HT0 := Lib.hid (hT.ext (grown_alloc w (.cells #[.complex .f64 x y, .float .f64 r] 39) none))
  obtain ⟨w2, hw2⟩ : ∃ w2, w2 = w.alloc (.cells #[.complex .f64 x y, .float .f64 r] 39) := ⟨_, rfl⟩
  have r0 : w2.heap[w.heap.size]? = some (.cells #[.complex .f64 x y, .float .f64 r] 39 (0, 0)) := by rw [hw2]; exact heap_at rfl
  have hg2 : w.grownBy w2 none := by rw [hw2]; exact grown_alloc _ _ _
  rw [← hw2] at HT0
  go_upto_region 1 with fail
  rw [← hw2]
  have KC : Hid (∀ w' : World, w2.grownBy w' none → (w'.cell? ⟨w.heap.size, 0, none⟩ = some (.complex .f64 x y) ∧ w'.cell? ⟨w.heap.size, 1, none⟩ = some (.float .f64 r)) ∧ Tab w' ∧ w.grownBy w' none) := fun w' h => ⟨row2 (heap_grown r0 h), HT0.out.ext h, grown_trans hg2 h⟩
  obtain ⟨⟨x0, x1⟩, _, _⟩ := KC.out _ (grown_refl9 w2)
  clear hw2 r0 hg2 hT HT0
  go_wp2_with fail
  refine (H1.out _).mono ?_
  rintro e3 w3 ⟨rfl, hg⟩
  obtain ⟨⟨x0, x1⟩, _, _⟩ := KC.out _ hg
  have HG3 := Lib.hid hg
  clear hg
  go_wp2_with fail
  refine (H2.out _).mono ?_
  rintro e3 w1 ⟨rfl, rfl⟩
  go_wp2_with fail
  refine (H3.out _).mono ?_
  rintro e3 w1 ⟨rfl, rfl⟩
  go_wp2_with fail
  refine (H4.out _).mono ?_
  rintro e3 w4 ⟨rfl, hg⟩
  have HG4 := Lib.hid (grown_trans HG3.out hg)
  obtain ⟨⟨x0, x1⟩, _, _⟩ := KC.out _ HG4.out
  have KS : Hid (∀ w' : World, w4.grownBy w' none → w'.cell? ⟨w.heap.size, 0, none⟩ = some (.complex .f64 x y) ∧ w'.cell? ⟨w.heap.size, 1, none⟩ = some (.float .f64 r) ∧ w4.grownBy w' none ∧ Tab w') := fun w' h => ⟨(KC.out _ (grown_trans HG4.out h)).1.1, (KC.out _ (grown_trans HG4.out h)).1.2, h, (KC.out _ (grown_trans HG4.out h)).2.1⟩
  clear hg
  go_upto_region 5 with fail
  go_region_held3 (fun w' : World => w'.cell? ⟨w.heap.size, 0, none⟩ = some (.complex .f64 x y) ∧ w'.cell? ⟨w.heap.size, 1, none⟩ = some (.float .f64 r) ∧ w4.grownBy w' none ∧ Tab w')
    (first
      | with_reducible exact KS.out _ (drew_grown' _)
      | with_reducible exact KS.out _ hGd
      | with_reducible exact KS.out _ hGs
      | with_reducible exact KS.out _ hGn
      | with_reducible exact KS.out _ hGa)
    (first
      | (go_at_call 59; go_split_ands; refine (H5.out _ (by assumption)).mono ?_; rintro e3 wa ⟨va, rfl, hda, hba⟩; have hga := grown_of_below hba none; have hGa := grown_trans (show w4.grownBy _ none by assumption) hga; have KA := Lib.hid hda; (try (have KN := Lib.hid (KN.out.grown0 hga))); (try (have KQ := Lib.hid (KQ.out.grown0 hga))); clear hda hba)
      | (go_at_call 58; go_split_ands; refine (H6.out _ (by assumption)).mono ?_; rintro e3 wn ⟨vn, rfl, hdn, hbn⟩; have hgn := grown_of_below hbn none; have hGn := grown_trans (show w4.grownBy _ none by assumption) hgn; have KN := Lib.hid hdn; (try (have KA := Lib.hid (KA.out.grown0 hgn))); clear hdn hbn)
      | (go_at_call 95; go_split_ands; refine (H7.out _ _ (by first | exact KN.out | exact KN.out.drew) (by assumption)).mono ?_; rintro e3 ws ⟨vq, rfl, hds, hbs⟩; have hgs := grown_of_below hbs none; have hGs := grown_trans (show w4.grownBy _ none by assumption) hgs; have KQ := Lib.hid hds; (try (have KA := Lib.hid (KA.out.grown0 hgs))); clear hds hbs)
      | (go_at_call 102; go_split_ands; refine (H8.out _ _ _ KA.out KQ.out).mono ?_; rintro e3 wd ⟨rfl, hbd⟩; have hgd := grown_of_below hbd none; have hGd := grown_trans (show w4.grownBy _ none by assumption) hgd; clear hbd))
  all_goals
    have HF := (KC.out _ (grown_trans HG4.out hGd)).2.2
    go_wp2
    go_ret
    exact ⟨rfl, HF⟩
end Go.Proofs.YtjbdadhggejoiaaGreatDoor

namespace Go.Proofs.YtjbdadhggejoiaaGreatDoor
open Go.RowKit
set_option maxRecDepth 100000
attribute [local go_sem] run_frombits run_bits store_f store_c

theorem rvalid_calls (mode : Nat) (w : World) (h : 1 ≤ mode ∧ mode ≤ 3) : Calls Tryz.prog 65 #[.int .i64 mode] w fun e w' => e = .returned (.int .i64 0) ∧ w = w' := by
  rcases (show mode = 1 ∨ mode = 2 ∨ mode = 3 by omega) with rfl | rfl | rfl
  all_goals
    go_enter Tryz.func65, Tryz.ntmps65
    go_wp2
    go_ret
    exact ⟨rfl, rfl⟩
theorem rinf_calls (x : Nat) (w : World) (h : Fin64 x) : Calls Tryz.prog 66 #[.float .f64 x] w fun e w' => e = .returned (.bool false) ∧ w = w' := by
  have H1 := Lib.hid (fun W => isinf_calls x W h)
  go_enter Tryz.func66, Tryz.ntmps66
  go_wp2_with fail
  refine (H1.out _).mono ?_
  rintro e3 w1 ⟨rfl, rfl⟩
  go_wp2
  go_ret
  exact ⟨rfl, rfl⟩
set_option maxHeartbeats 1000000 in
theorem rto_calls (v : Value) (a : Dy) (mode : Nat) (w : World) (hv : DR w v a) (ho : a.ok) (hm : a.mid) (hmode : 1 ≤ mode ∧ mode ≤ 3) :
    Calls Tryz.prog 71 #[v, .int .i64 mode] w fun e w' => e = .returned (.float .f64 (roundF a mode)) ∧ w.grownBy w' none := by
  obtain ⟨A1, c1, rfl, k1, m1, hW1⟩ := hv
  have hN1 : NR w (NV a.neg A1 (words a.m).length c1 a.e) a.neg a.m a.e := ⟨A1, c1, rfl, k1, m1, hW1⟩
  have h1 := fun (W : World) (hg : w.grownBy W none) => dround_calls _ a mode W (hN1.grown0 hg) ho hm hmode
  unfold NV at h1 ⊢
  obtain ⟨r, hr⟩ : ∃ r, r = roundF a mode := ⟨_, rfl⟩
  obtain ⟨L1, hL1⟩ : ∃ L, L = (words a.m).length := ⟨_, rfl⟩
  simp only [← hL1, ← hr] at h1 ⊢
  have H1 := Lib.hid h1
  clear h1 hL1 hr k1 hW1 hN1
  go_enter Tryz.func71, Tryz.ntmps71
  go_wp2_with fail
  refine (H1.out _ (grown_alloc _ _ _)).mono ?_
  rintro e3 w3 ⟨rfl, hb⟩
  have HG := Lib.hid (grown_trans (grown_alloc _ _ _) (grown_of_below hb none))
  clear hb
  go_wp2
  go_ret
  exact ⟨rfl, HG.out⟩
theorem rnought_calls (a b : Nat) (w : World) (ha : Fin64 a) (hb : Fin64 b) (hab : (fneg a && fneg b) = false) : Calls Tryz.prog 70 #[.float .f64 a, .float .f64 b, .int .i64 3] w fun e w' => e = .returned (.float .f64 0) ∧ w = w' := by
  have H1 := Lib.hid (fun W => signbit_calls a W ha.1)
  have H2 := Lib.hid (fun W => signbit_calls b W hb.1)
  obtain ⟨x, hx⟩ : ∃ b, b = fneg a := ⟨_, rfl⟩
  obtain ⟨y, hy⟩ : ∃ c, c = fneg b := ⟨_, rfl⟩
  simp only [← hx] at H1 hab
  simp only [← hy] at H2 hab
  obtain ⟨za, hza⟩ : ∃ z, (FloatKind.f64.format.order a 0 == some Ordering.eq) = z := ⟨_, rfl⟩
  obtain ⟨zb, hzb⟩ : ∃ z, (FloatKind.f64.format.order b 0 == some Ordering.eq) = z := ⟨_, rfl⟩
  clear hx hy ha hb
  cases x <;> cases y <;> first
    | exact absurd hab (by decide)
    | (clear hab
       cases za <;> cases zb
       all_goals
         go_enter Tryz.func70, Tryz.ntmps70
         go_wp2_with fail
         refine (H1.out _).mono ?_
         rintro e3 w1 ⟨rfl, rfl⟩
         go_wp2_with fail
         refine (H2.out _).mono ?_
         rintro e3 w1 ⟨rfl, rfl⟩
         go_wp2
         go_ret
         exact ⟨rfl, rfl⟩)
end Go.Proofs.YtjbdadhggejoiaaGreatDoor

namespace Go.Proofs.YtjbdadhggejoiaaGreatDoor
open Go.RowKit
set_option maxRecDepth 100000
attribute [local go_sem] run_frombits run_bits store_f store_c

def raddF (a b mode : Nat) : Nat := if (dadd (ofF a) (ofF b)).m = 0 then 0 else roundF (dadd (ofF a) (ofF b)) mode
structure AddOk (a b mode : Nat) : Prop where
  fa : Fin64 a
  fb : Fin64 b
  f : notFar (ofF a) (ofF b)
  k : (dadd (ofF a) (ofF b)).ok
  m : 1 ≤ mode ∧ mode ≤ 3
  z : (dadd (ofF a) (ofF b)).m = 0 → mode = 3 ∧ (fneg a && fneg b) = false
  n : (dadd (ofF a) (ofF b)).m ≠ 0 → (dadd (ofF a) (ofF b)).mid
set_option maxHeartbeats 4000000 in
theorem radd_calls (a b mode : Nat) (w : World) (h : AddOk a b mode) (hT : Tab w) :
    Calls Tryz.prog 42 #[.float .f64 a, .float .f64 b, .int .i64 mode] w fun e w' => e = .returned (.float .f64 (raddF a b mode)) ∧ w.grownBy w' none := by
  obtain ⟨fa, fb, f, k, m, z, n⟩ := h
  have oa := ofF_ok fa
  have ob := ofF_ok fb
  have g1 : (FloatKind.f64.format.order a a != some Ordering.eq) = false := by rw [dbl, order_self fa]; rfl
  have g2 : (FloatKind.f64.format.order b b != some Ordering.eq) = false := by rw [dbl, order_self fb]; rfl
  have H1 := Lib.hid (fun W => rvalid_calls mode W m)
  have H2 := Lib.hid (fun W => rinf_calls a W fa)
  have H3 := Lib.hid (fun W => rinf_calls b W fb)
  have H4 := Lib.hid (fun W (h : Tab W) => rnum_calls a W fa h)
  have H5 := Lib.hid (fun W (h : Tab W) => rnum_calls b W fb h)
  have HZ := Lib.hid (fun W (h : (dadd (ofF a) (ofF b)).m = 0) => rnought_calls a b W fa fb (z h).2)
  have hz3 : (dadd (ofF a) (ofF b)).m = 0 → mode = 3 := fun h => (z h).1
  obtain ⟨R, hR⟩ : ∃ R, R = raddF a b mode := ⟨_, rfl⟩
  rw [← hR]
  unfold raddF at hR
  obtain ⟨p, hp⟩ : ∃ p, p = ofF a := ⟨_, rfl⟩
  obtain ⟨q, hq⟩ : ∃ p, p = ofF b := ⟨_, rfl⟩
  simp only [← hp, ← hq] at *
  have H6 := Lib.hid (fun W (v1 v2 : Value) (h1 : DR W v1 p) (h2 : DR W v2 q) (h : Tab W) => dadd_calls v1 v2 p q W h1 oa h2 ob f k h)
  obtain ⟨s, hs⟩ : ∃ s, s = dadd p q := ⟨_, rfl⟩
  simp only [← hs] at *
  have H7 := Lib.hid (fun W (v1 : Value) (h1 : DR W v1 s) => dsign_calls v1 s.neg s.m s.e W h1 k)
  have H8 := Lib.hid (fun W (v1 : Value) (h1 : DR W v1 s) (h : s.m ≠ 0) => rto_calls v1 s mode W h1 k (n h) m)
  have HR := Lib.hid hR
  clear fa fb f k m z n oa ob hp hq hs hR
  go_enter Tryz.func42, Tryz.ntmps42
  go_wp2_with fail
  refine (H1.out _).mono ?_
  rintro e3 w1 ⟨rfl, rfl⟩
  go_wp2_with fail
  refine (H2.out _).mono ?_
  rintro e3 w1 ⟨rfl, rfl⟩
  go_wp2_with fail
  refine (H3.out _).mono ?_
  rintro e3 w1 ⟨rfl, rfl⟩
  go_wp2_with fail
  refine (H4.out _ hT).mono ?_
  rintro e3 w1 ⟨va, rfl, hda, hba⟩
  have hga := grown_of_below hba none
  have HT1 := Lib.hid (hT.ext hga)
  have KA := Lib.hid hda
  have HG1 := Lib.hid hga
  clear hT hda hba hga
  go_wp2_with fail
  refine (H5.out _ HT1.out).mono ?_
  rintro e3 w2 ⟨vb, rfl, hdb, hbb⟩
  have hgb := grown_of_below hbb none
  have HT2 := Lib.hid (HT1.out.ext hgb)
  have KA := Lib.hid (KA.out.grown0 hgb)
  have KB := Lib.hid hdb
  have HG2 := Lib.hid (grown_trans HG1.out hgb)
  clear hdb hbb hgb HT1 HG1
  go_wp2_with fail
  refine (H6.out _ _ _ KA.out KB.out HT2.out).mono ?_
  rintro e3 w3 ⟨vs, rfl, ⟨A, c, rfl, hc, hcm, hW⟩, hbs⟩
  have hds : DR w3 (NV s.neg A (words s.m).length c s.e) s := ⟨A, c, rfl, hc, hcm, hW⟩
  have HG3 := Lib.hid (grown_trans HG2.out (grown_of_below hbs none))
  unfold NV at hds ⊢
  have hS := fun o => H7.out _ _ (hds.grown0 (grown_alloc w3 o none))
  have hO := fun (W : World) (hn : s.m ≠ 0) (hg : w3.grownBy W none) => H8.out _ _ (hds.grown0 hg) hn
  obtain ⟨N, hN⟩ : ∃ L, L = (words s.m).length := ⟨_, rfl⟩
  rw [← hN] at hS hO ⊢
  have HS := Lib.hid hS
  have HO := Lib.hid hO
  clear hN hc hcm hW hbs hds hS hO KA KB HT2 HG2
  go_wp2_with fail
  refine (HS.out _).mono ?_
  rintro e3 w4 ⟨rfl, hg4⟩
  obtain ⟨x0, x1, x2⟩ := row3 (heap_grown (heap_alloc_new w3 (.cells #[.bool s.neg, .slice A N c, .int .i64 s.e] 74)) hg4)
  have HG4 := Lib.hid (grown_trans HG3.out (grown_trans (grown_alloc _ _ _) hg4))
  have HG34 := Lib.hid (grown_trans (grown_alloc w3 (.cells #[.bool s.neg, .slice A N c, .int .i64 s.e] 74) none) hg4)
  clear hg4
  by_cases h0 : s.m = 0
  · have hs0 : (sgD s.neg s.m == 0) = true := by unfold sgD; rw [if_pos h0]; rfl
    have hm3 := hz3 h0
    subst hm3
    have HZ0 := Lib.hid (fun W => HZ.out W h0)
    have hR0 : R = 0 := by rw [HR.out, if_pos h0]
    subst hR0
    clear HR hz3 h0
    go_wp2_with fail
    refine (HZ0.out _).mono ?_
    rintro e3 w5 ⟨rfl, rfl⟩
    go_wp2
    go_ret
    exact ⟨rfl, HG4.out⟩
  · have hs0 : (sgD s.neg s.m == 0) = false := by unfold sgD; rw [if_neg h0]; cases s.neg <;> rfl
    have hR0 : R = roundF s mode := by rw [HR.out, if_neg h0]
    have HO1 := Lib.hid (HO.out _ h0 HG34.out)
    rw [← hR0] at HO1
    clear HR hz3 h0 hR0
    go_wp2_with fail
    refine HO1.out.mono ?_
    rintro e3 w5 ⟨rfl, hg5⟩
    have HF := Lib.hid (grown_trans HG4.out hg5)
    clear hg5
    go_wp2
    go_ret
    exact ⟨rfl, HF.out⟩
end Go.Proofs.YtjbdadhggejoiaaGreatDoor

namespace Go.Proofs.YtjbdadhggejoiaaGreatDoor
open Go.RowKit
set_option maxRecDepth 100000
attribute [local go_sem] run_frombits run_bits store_f store_c

theorem run_neg (b : Nat) (w : World) : (Op.unary .neg (.float .f64 b)).run Tryz.prog w = .ok (.float .f64 (Op.negFloat .f64 b)) w := rfl
attribute [local go_sem] run_neg
theorem rsub_calls (a b c mode : Nat) (w : World) (hc : Op.negFloat .f64 b = c) (h : AddOk a c mode) (hT : Tab w) :
    Calls Tryz.prog 57 #[.float .f64 a, .float .f64 b, .int .i64 mode] w fun e w' => e = .returned (.float .f64 (raddF a c mode)) ∧ w.grownBy w' none := by
  have H1 := Lib.hid (radd_calls a c mode w h hT)
  obtain ⟨R, hR⟩ : ∃ R, R = raddF a c mode := ⟨_, rfl⟩
  rw [← hR] at H1 ⊢
  clear hR h
  go_enter Tryz.func57, Tryz.ntmps57
  go_wp2_with fail
  refine H1.out.mono ?_
  rintro e3 w1 ⟨rfl, hg⟩
  have HG := Lib.hid hg
  clear hg
  go_wp2
  go_ret
  exact ⟨rfl, HG.out⟩
/-- r is the root of the digits m, moved; it is a normal float -/
structure SqOk (m r : Nat) (e : Int) : Prop where
  n0 : m ≠ 0
  h1 : r * r ≤ m * 2 ^ rk m e
  h2 : m * 2 ^ rk m e < (r + 1) * (r + 1)
  r0 : r ≠ 0
  b1 : -1074 ≤ (Go.bitLen r : Int) + (e - rk m e) / 2 - 53
  b2 : (Go.bitLen r : Int) + (e - rk m e) / 2 - 53 ≤ 970
theorem droot_calls (v : Value) (d : Dy) (r mode : Nat) (w : World) (hv : DR w v d) (ho : d.ok) (hn : d.neg = false) (hs : SqOk d.m r d.e) (hmode : 1 ≤ mode ∧ mode ≤ 3) :
    Calls Tryz.prog 47 #[v, .int .i64 mode] w fun en w' => en = .returned (.tuple #[.float .f64 (sqrtF d.m r d.e mode), .int .i64 0]) ∧ w.grownBy w' none := by
  obtain ⟨s1, s2, s3, s4, s5, s6⟩ := hs
  refine (dsqrt_calls v d.m r mode d.e w (by rw [← hn]; exact hv) (by have := ho; unfold Dy.ok at this; rw [hn] at this; exact this) s1 hmode s2 s3 s4 s5 s6).mono ?_
  rintro e w' ⟨rfl, hb⟩
  exact ⟨rfl, grown_of_below hb none⟩
set_option maxHeartbeats 1000000 in
theorem rsqrt_calls (a r mode : Nat) (w : World) (h0 : 0 < a) (h1 : a < 9218868437227405312) (hs : SqOk (ofF a).m r (ofF a).e) (hmode : 1 ≤ mode ∧ mode ≤ 3) (hn : (ofF a).neg = false) (hT : Tab w) :
    Calls Tryz.prog 40 #[.float .f64 a, .int .i64 mode] w fun e w' => e = .returned (.float .f64 (sqrtF (ofF a).m r (ofF a).e mode)) ∧ w.grownBy w' none := by
  obtain ⟨fa, _⟩ := fin_of h1
  have oa := ofF_ok fa
  have g1 : (FloatKind.f64.format.order a a != some Ordering.eq) = false := by rw [dbl, order_self fa]; rfl
  have hz := order_pos h1 (y := 0) (by decide)
  rw [if_neg (by omega), if_neg (by omega)] at hz
  have g2 : (FloatKind.f64.format.order a 0 == some Ordering.lt) = false := by rw [dbl, hz]; rfl
  have g3 : (FloatKind.f64.format.order a 0 == some Ordering.eq) = false := by rw [dbl, hz]; rfl
  have H1 := Lib.hid (fun W => rvalid_calls mode W hmode)
  have H2 := Lib.hid (fun W => rinf_calls a W fa)
  have H4 := Lib.hid (fun W (h : Tab W) => rnum_calls a W fa h)
  obtain ⟨p, hp⟩ : ∃ p, p = ofF a := ⟨_, rfl⟩
  simp only [← hp] at *
  have H5 := Lib.hid (fun W (v1 : Value) (h1 : DR W v1 p) => droot_calls v1 p r mode W h1 oa hn hs hmode)
  obtain ⟨R, hR⟩ : ∃ R, R = sqrtF p.m r p.e mode := ⟨_, rfl⟩
  simp only [← hR] at *
  clear hR hp hs hn oa hz fa h0 h1 hmode
  go_enter Tryz.func40, Tryz.ntmps40
  go_wp2_with fail
  refine (H1.out _).mono ?_
  rintro e3 w1 ⟨rfl, rfl⟩
  go_wp2_with fail
  refine (H2.out _).mono ?_
  rintro e3 w1 ⟨rfl, rfl⟩
  go_wp2_with fail
  refine (H4.out _ hT).mono ?_
  rintro e3 w1 ⟨va, rfl, hda, hba⟩
  have HG1 := Lib.hid (grown_of_below hba none)
  have KA := Lib.hid hda
  clear hT hda hba
  go_wp2_with fail
  refine (H5.out _ _ KA.out).mono ?_
  rintro e3 w2 ⟨rfl, hg⟩
  have HG2 := Lib.hid (grown_trans HG1.out hg)
  clear hg
  go_wp2
  go_ret
  exact ⟨rfl, HG2.out⟩
structure DivOk (a b : Nat) : Prop where
  fa : Fin64 a
  fb : Fin64 b
  na : (Ieee.double.order a 0 == some .eq) = false
  nb : (Ieee.double.order b 0 == some .eq) = false
  ma : (ofF a).m ≠ 0
  mb : (ofF b).m ≠ 0
  q : (words ((ofF a).m * 2 ^ qk (ofF a).m (ofF b).m / (ofF b).m)).length ≤ 8192
  q0 : (ofF a).m * 2 ^ qk (ofF a).m (ofF b).m / (ofF b).m ≠ 0
  b1 : -1074 ≤ (Go.bitLen ((ofF a).m * 2 ^ qk (ofF a).m (ofF b).m / (ofF b).m) : Int) + ((ofF a).e - (ofF b).e - qk (ofF a).m (ofF b).m) - 53
  b2 : (Go.bitLen ((ofF a).m * 2 ^ qk (ofF a).m (ofF b).m / (ofF b).m) : Int) + ((ofF a).e - (ofF b).e - qk (ofF a).m (ofF b).m) - 53 ≤ 970
set_option maxHeartbeats 1000000 in
theorem rdiv_calls (a b mode : Nat) (w : World) (h : DivOk a b) (hmode : 1 ≤ mode ∧ mode ≤ 3) (hT : Tab w) :
    Calls Tryz.prog 44 #[.float .f64 a, .float .f64 b, .int .i64 mode] w fun e w' => e = .returned (.float .f64 (ratioF (ofF a) (ofF b) mode)) ∧ w.grownBy w' none := by
  obtain ⟨fa, fb, na, nb, ma, mb, q, q0, b1, b2⟩ := h
  have oa := ofF_ok fa
  have ob := ofF_ok fb
  have g1 : (FloatKind.f64.format.order a a != some Ordering.eq) = false := by rw [dbl, order_self fa]; rfl
  have g2 : (FloatKind.f64.format.order b b != some Ordering.eq) = false := by rw [dbl, order_self fb]; rfl
  have g3 : (FloatKind.f64.format.order a 0 == some Ordering.eq) = false := na
  have g4 : (FloatKind.f64.format.order b 0 == some Ordering.eq) = false := nb
  have H1 := Lib.hid (fun W => rvalid_calls mode W hmode)
  have H2 := Lib.hid (fun W => rinf_calls a W fa)
  have H3 := Lib.hid (fun W => rinf_calls b W fb)
  have H4 := Lib.hid (fun W (h : Tab W) => rnum_calls a W fa h)
  have H5 := Lib.hid (fun W (h : Tab W) => rnum_calls b W fb h)
  have H6 := Lib.hid (fun W (v1 v2 : Value) (h1 : DR W v1 (ofF a)) (h2 : DR W v2 (ofF b)) => dratio_calls v1 v2 (ofF a) (ofF b) mode W h1 oa h2 ob ma mb hmode q q0 b1 b2)
  obtain ⟨R, hR⟩ : ∃ R, R = ratioF (ofF a) (ofF b) mode := ⟨_, rfl⟩
  simp only [← hR] at H6 ⊢
  clear hR fa fb na nb ma mb q q0 b1 b2 oa ob hmode
  go_enter Tryz.func44, Tryz.ntmps44
  go_wp2_with fail
  refine (H1.out _).mono ?_
  rintro e3 w1 ⟨rfl, rfl⟩
  go_wp2_with fail
  refine (H2.out _).mono ?_
  rintro e3 w1 ⟨rfl, rfl⟩
  go_wp2_with fail
  refine (H3.out _).mono ?_
  rintro e3 w1 ⟨rfl, rfl⟩
  go_wp2_with fail
  refine (H4.out _ hT).mono ?_
  rintro e3 w1 ⟨va, rfl, hda, hba⟩
  have hga := grown_of_below hba none
  have HT1 := Lib.hid (hT.ext hga)
  have KA := Lib.hid hda
  have HG1 := Lib.hid hga
  clear hT hda hba hga
  go_wp2_with fail
  refine (H5.out _ HT1.out).mono ?_
  rintro e3 w2 ⟨vb, rfl, hdb, hbb⟩
  have hgb := grown_of_below hbb none
  have KA := Lib.hid (KA.out.grown0 hgb)
  have KB := Lib.hid hdb
  have HG2 := Lib.hid (grown_trans HG1.out hgb)
  clear hdb hbb hgb HT1 HG1
  go_wp2_with fail
  refine (H6.out _ _ _ KA.out KB.out).mono ?_
  rintro e3 w3 ⟨rfl, hb3⟩
  have HG3 := Lib.hid (grown_trans HG2.out (grown_of_below hb3 none))
  clear hb3
  go_wp2
  go_ret
  exact ⟨rfl, HG3.out⟩
end Go.Proofs.YtjbdadhggejoiaaGreatDoor

namespace Go.Proofs.YtjbdadhggejoiaaGreatDoor
open Go.RowKit
set_option maxRecDepth 100000
attribute [local go_sem] run_frombits run_bits store_f store_c

theorem bplain_calls (x : Nat) (w : World) (h : (Ieee.double.order x 0 == some .eq) = false) : Calls Tryz.prog 61 #[.float .f64 x] w fun e w' => e = .returned (.float .f64 x) ∧ w = w' := by
  have g : (FloatKind.f64.format.order x 0 == some Ordering.eq) = false := h
  go_enter Tryz.func61, Tryz.ntmps61
  go_wp2
  go_ret
  exact ⟨rfl, rfl⟩
set_option maxHeartbeats 1000000 in
theorem bfit_calls (x y r : Nat) (w : World) (hx : Fin64 x) (hy : Fin64 y) (hr : Fin64 r) : Calls Tryz.prog 72 #[.complex .f64 x y, .float .f64 r] w fun e w' => e = .returned (BV x y r) ∧ w.grownBy w' none := by
  have H1 := Lib.hid (fun W => finite_calls x W hx)
  have H2 := Lib.hid (fun W => finite_calls y W hy)
  have H3 := Lib.hid (fun W => finite_calls r W hr)
  have hg := grown_alloc w (.cells #[.complex .f64 x y, .float .f64 r] 39) none
  have HG := Lib.hid hg
  clear hg
  unfold BV
  go_enter Tryz.func72, Tryz.ntmps72
  go_wp2_with fail
  refine (H1.out _).mono ?_
  rintro e3 w1 ⟨rfl, rfl⟩
  go_wp2_with fail
  refine (H2.out _).mono ?_
  rintro e3 w1 ⟨rfl, rfl⟩
  go_wp2_with fail
  refine (H3.out _).mono ?_
  rintro e3 w1 ⟨rfl, rfl⟩
  go_wp2
  refine bodyPost_ret (v := .agg #[.complex .f64 x y, .float .f64 r]) ?_ rfl ⟨rfl, HG.out⟩
  simp [results, Tryz.results72, go_sem, *]
set_option maxHeartbeats 2000000 in
theorem bray_calls (x y r : Nat) (w : World) (h : ApartOk x y 0 0) (hr : Fin64 r) (hrn : fneg r = false) (hs : (dsqr (ofF r)).ok) (hx : (Ieee.double.order x 0 == some .gt) = true) (hT : Tab w) :
    Calls Tryz.prog 38 #[BV x y r] w fun e w' => e = .returned (.bool (hasB x y r 0 0)) ∧ w.grownBy w' none := by
  have hval := fun W => valid_calls x y r W h.fx h.fy hr
  rw [hrn] at hval
  have hw := fun W => whole_calls x y r W (nf_fin h.fx) (nf_fin h.fy) (nf_fin hr)
  have hne : ¬ r = 9218868437227405312 := fun e => by subst e; exact absurd hr.2 (by decide)
  rw [decide_eq_false hne, Bool.and_false] at hw
  have H1 := Lib.hid hval
  have H2 := Lib.hid hw
  have H3 := Lib.hid (fun W (hT : Tab W) => bhas_calls x y r 0 0 W h hr hrn hs hT)
  have ho : Ieee.double.order x 0 = some .gt := by
    revert hx
    cases hh : Ieee.double.order x 0 with
    | none => intro h; exact absurd h (by decide)
    | some o => cases o <;> intro h <;> first | rfl | exact absurd h (by decide)
  have g1 : FloatKind.f64.format.order x 0 = some Ordering.gt := ho
  obtain ⟨R, hR⟩ : ∃ R, R = hasB x y r 0 0 := ⟨_, rfl⟩
  rw [← hR] at H3 ⊢
  unfold BV at H1 H2 H3 ⊢
  clear hval hw hne hR hx h hr hrn hs ho
  go_enter Tryz.func38, Tryz.ntmps38
  have HT0 := Lib.hid (hT.ext (grown_alloc w (.cells #[.complex .f64 x y, .float .f64 r] 39) none))
  obtain ⟨w2, hw2⟩ : ∃ w2, w2 = w.alloc (.cells #[.complex .f64 x y, .float .f64 r] 39) := ⟨_, rfl⟩
  have r0 : w2.heap[w.heap.size]? = some (.cells #[.complex .f64 x y, .float .f64 r] 39 (0, 0)) := by rw [hw2]; exact heap_at rfl
  have hg2 : w.grownBy w2 none := by rw [hw2]; exact grown_alloc _ _ _
  rw [← hw2] at HT0
  go_upto_region 1 with fail
  rw [← hw2]
  have KC : Hid (∀ w' : World, w2.grownBy w' none → (w'.cell? ⟨w.heap.size, 0, none⟩ = some (.complex .f64 x y) ∧ w'.cell? ⟨w.heap.size, 1, none⟩ = some (.float .f64 r)) ∧ Tab w' ∧ w.grownBy w' none) := fun w' h => ⟨row2 (heap_grown r0 h), HT0.out.ext h, grown_trans hg2 h⟩
  obtain ⟨⟨x0, x1⟩, _, _⟩ := KC.out _ (grown_refl9 w2)
  clear hw2 r0 hg2 hT HT0
  go_wp2_with fail
  refine (H1.out _).mono ?_
  rintro e3 w3 ⟨rfl, hg⟩
  obtain ⟨⟨x0, x1⟩, _, _⟩ := KC.out _ hg
  have HG3 := Lib.hid hg
  clear hg
  go_wp2_with fail
  refine (H2.out _).mono ?_
  rintro e3 w4 ⟨rfl, hg⟩
  have HG4 := Lib.hid (grown_trans HG3.out hg)
  obtain ⟨⟨x0, x1⟩, hT4, _⟩ := KC.out _ HG4.out
  have H3b := Lib.hid (H3.out _ hT4)
  clear hg hT4
  go_wp2_with fail
  refine H3b.out.mono ?_
  rintro e3 w5 ⟨rfl, hg⟩
  have HF := (KC.out _ (grown_trans HG4.out hg)).2.2
  have HFF := Lib.hid HF
  clear hg HF
  go_wp2
  go_ret
  exact ⟨rfl, HFF.out⟩
/-- a block that holds a ball -/
def BDuo (w : World) (r : Nat) : Prop := ∃ a b c t, w.heap[r]? = some (.cells #[.complex .f64 a b, .float .f64 c] t (0, 0))
theorem BDuo.grown {w w' : World} {b : Nat} (h : BDuo w b) (hg : w.grownBy w' none) : BDuo w' b := by
  obtain ⟨x, e, c, t, h⟩ := h
  exact ⟨x, e, c, t, heap_grown h hg⟩
theorem BDuo.open {w : World} {b : Nat} (h : BDuo w b) : ∃ x e c, w.cell? ⟨b, 0, none⟩ = some (.complex .f64 x e) ∧ w.cell? ⟨b, 1, none⟩ = some (.float .f64 c) ∧ w.frozen? ⟨b, 0, none⟩ = false ∧ w.frozen? ⟨b, 1, none⟩ = false := by
  obtain ⟨x, e, c, t, h⟩ := h
  obtain ⟨h1, h2⟩ := row2 h
  exact ⟨x, e, c, h1, h2, (row_cells h 0).2, (row_cells h 1).2⟩
theorem set2_grown {w : World} {r : Nat} {a b : Value} : w.grownBy ((w.setCell ⟨r, 0, none⟩ a).setCell ⟨r, 1, none⟩ b) (some r) := grown_trans grown_setCell grown_setCell
theorem grown_res {w w1 w2 : World} {r : Nat} (h : w.grownBy w1 none) (hr : w.heap.size ≤ r) (h2 : w1.grownBy w2 (some r)) : w.grownBy w2 none :=
  ⟨h2.os.trans h.os, h2.tape.trans h.tape, h2.output.trans h.output, Nat.le_trans h.size h2.size, fun k hk hn => (h2.block k (Nat.lt_of_lt_of_le hk h.size) (fun e => by injection e with e; omega)).trans (h.block k hk hn)⟩
set_option maxHeartbeats 2000000 in
theorem bgrow_calls (x y r m : Nat) (w : World) (hx : Fin64 x) (hy : Fin64 y) (hr : Fin64 r) (hrn : fneg r = false) (hm : Fin64 m) (hm0 : (Ieee.double.order m 0 == some .lt) = false) (ha : AddOk r m 3) (hs : Fin64 (raddF r m 3)) (hT : Tab w) :
    Calls Tryz.prog 43 #[BV x y r, .float .f64 m] w fun e w' => e = .returned (.tuple #[BV x y (raddF r m 3), .int .i64 0]) ∧ w.grownBy w' none := by
  have hval := fun W => valid_calls x y r W hx hy hr
  rw [hrn] at hval
  have H1 := Lib.hid hval
  have H2 := Lib.hid (fun W => isnan_calls m W hm)
  have H3 := Lib.hid (fun W (hT : Tab W) => radd_calls r m 3 W ha hT)
  have H4 := Lib.hid (fun W => bfit_calls x y (raddF r m 3) W hx hy hs)
  have g1 : (FloatKind.f64.format.order m 0 == some Ordering.lt) = false := hm0
  obtain ⟨R, hR⟩ : ∃ R, R = raddF r m 3 := ⟨_, rfl⟩
  simp only [← hR] at H3 H4 ⊢
  unfold BV at H1 H4 ⊢
  clear hval hR hx hy hr hrn hm hm0 ha hs
  go_enter Tryz.func43, Tryz.ntmps43
  go_upto_region 1 with fail
  obtain ⟨w2, hw2⟩ : ∃ w2, w2 = (w.alloc (.cells #[.complex .f64 x y, .float .f64 r] 39)).alloc (.cells #[.complex .f64 0 0, .float .f64 0] 39) := ⟨_, rfl⟩
  have r0 : w2.heap[w.heap.size]? = some (.cells #[.complex .f64 x y, .float .f64 r] 39 (0, 0)) := by rw [hw2]; exact heap_old (heap_at rfl)
  have r1 : w2.heap[w.heap.size + 1]? = some (.cells #[.complex .f64 0 0, .float .f64 0] 39 (0, 0)) := by rw [hw2]; exact heap_at (by simp)
  have hg2 : w.grownBy w2 none := by rw [hw2]; exact grown_trans (grown_alloc _ _ _) (grown_alloc _ _ _)
  rw [← hw2]
  obtain ⟨x0, x1⟩ := row2 r0
  have hlt : w.heap.size + 1 < w2.heap.size := (Array.getElem?_eq_some_iff.1 r1).1
  have KB : Hid (BDuo w2 (w.heap.size + 1)) := ⟨_, _, _, _, r1⟩
  have HG2 := Lib.hid hg2
  clear hw2 r0 r1 hg2
  go_wp2_with fail
  refine (H1.out _).mono ?_
  rintro e3 w3 ⟨rfl, hg⟩
  obtain ⟨x0, x1⟩ : w3.cell? ⟨w.heap.size, 0, none⟩ = some (.complex .f64 x y) ∧ w3.cell? ⟨w.heap.size, 1, none⟩ = some (.float .f64 r) := ⟨cell_ext hg x0, cell_ext hg x1⟩
  have HG3 := Lib.hid (grown_trans HG2.out hg)
  have KB3 := Lib.hid (KB.out.grown hg)
  have hs3 := hg.size
  have HT3 := Lib.hid (hT.ext HG3.out)
  have hlt3 : w.heap.size + 1 < w3.heap.size := by omega
  clear hg KB HG2 hT
  go_wp2_with fail
  refine (H2.out _).mono ?_
  rintro e3 w1 ⟨rfl, rfl⟩
  go_upto_region 5 with fail
  have K6 : Hid (∀ w' : World, w3.grownBy w' (some (w.heap.size + 1)) → w'.cell? ⟨w.heap.size, 0, none⟩ = some (.complex .f64 x y) ∧ w'.cell? ⟨w.heap.size, 1, none⟩ = some (.float .f64 r) ∧ w3.grownBy w' (some (w.heap.size + 1))) := fun w' h => ⟨cell_grown h (by omega) (by omega) x0, cell_grown h (by omega) (by omega) x1, h⟩
  go_region_held3 (fun w' : World => w'.cell? ⟨w.heap.size, 0, none⟩ = some (.complex .f64 x y) ∧ w'.cell? ⟨w.heap.size, 1, none⟩ = some (.float .f64 r) ∧ w3.grownBy w' (some (w.heap.size + 1)))
    (first
      | with_reducible exact K6.out _ (grown_some (drew_grown' _))
      | with_reducible exact K6.out _ (grown_trans (grown_some hGb) set2_grown)
      | with_reducible exact K6.out _ (grown_some hGb)
      | with_reducible exact K6.out _ (grown_some hGa))
    (first
      | (go_at_call 42; refine (H3.out _ (by exact HT3.out)).mono ?_; rintro e3 w4 ⟨rfl, hg⟩; have hGa : w3.grownBy w4 none := grown_trans (drew_grown' _) hg; clear hg)
      | (go_at_call 72; refine (H4.out _).mono ?_; rintro e3 w5 ⟨rfl, hg⟩; have hGb : w3.grownBy w5 none := grown_trans hGa hg; have KB5 := KB3.out.grown hGb; obtain ⟨p1, p2, p3, y0, y1, z0, z1⟩ := KB5.open; clear hg KB5))
  all_goals
    have HF := Lib.hid (grown_res (grown_trans HG3.out hGb) (by omega) (set2_grown (r := w.heap.size + 1) (a := .complex .f64 x y) (b := .float .f64 R)))
    go_wp2
    refine bodyPost_ret (v := .tuple #[.agg #[.complex .f64 x y, .float .f64 R], .int .i64 0]) ?_ rfl ⟨rfl, HF.out⟩
    simp [results, Tryz.results43, go_sem, *]
end Go.Proofs.YtjbdadhggejoiaaGreatDoor

namespace Go.Proofs.YtjbdadhggejoiaaGreatDoor
open Go.RowKit
set_option maxRecDepth 100000
attribute [local go_sem] run_frombits run_bits store_f store_c

def clB (r norm : Dy) (f : Nat) : Bool := decide (dcmp (dsqr (dadd (ofF f) r)) norm ≤ 0)
structure ClOk (r norm : Dy) (f : Nat) : Prop where
  ff : Fin64 f
  nf : notFar (ofF f) r
  k : (dadd (ofF f) r).ok
  s : (dsqr (dadd (ofF f) r)).ok
set_option maxHeartbeats 2000000 in
theorem lclos_calls (r norm : Dy) (f Br Bn : Nat) (A1 A2 : Option Addr) (c1 c2 : Nat) (w : World) (hr : DR w (NV r.neg A1 (words r.m).length c1 r.e) r) (hn : DR w (NV norm.neg A2 (words norm.m).length c2 norm.e) norm) (hro : r.ok) (hno : norm.ok) (h : ClOk r norm f) (hT : Tab w)
    (x0 : w.cell? ⟨Br, 0, none⟩ = some (.bool r.neg)) (x1 : w.cell? ⟨Br, 1, none⟩ = some (.slice A1 (words r.m).length c1)) (x2 : w.cell? ⟨Br, 2, none⟩ = some (.int .i64 r.e))
    (y0 : w.cell? ⟨Bn, 0, none⟩ = some (.bool norm.neg)) (y1 : w.cell? ⟨Bn, 1, none⟩ = some (.slice A2 (words norm.m).length c2)) (y2 : w.cell? ⟨Bn, 2, none⟩ = some (.int .i64 norm.e)) :
    Calls Tryz.prog 103 #[.int .u64 f, .pointer (some ⟨Br, 0, none⟩), .pointer (some ⟨Bn, 0, none⟩)] w fun e w' => e = .returned (.bool (clB r norm f)) ∧ w.grownBy w' none := by
  obtain ⟨ff, hf, hk, hs⟩ := h
  have oo := ofF_ok ff
  have H1 := Lib.hid (fun W (h : Tab W) => bnum_calls f W ff h)
  have eB : clB r norm f = decide (dcmp (dsqr (dadd (ofF f) r)) norm ≤ 0) := rfl
  obtain ⟨p, hp⟩ : ∃ p, p = ofF f := ⟨_, rfl⟩
  simp only [← hp] at *
  have H2 := Lib.hid (fun W (v1 : Value) (hg : w.grownBy W none) (h1 : DR W v1 p) (h : Tab W) => badd_calls v1 _ p r W h1 oo (hr.grown0 hg) hro hf hk h)
  obtain ⟨s, hss⟩ : ∃ s, s = dadd p r := ⟨_, rfl⟩
  simp only [← hss] at *
  have H3 := Lib.hid (fun W (v1 : Value) (h1 : DR W v1 s) (h : Tab W) => bsqr_calls v1 s W h1 hk hs h)
  obtain ⟨q, hq⟩ : ∃ q, q = dsqr s := ⟨_, rfl⟩
  simp only [← hq] at *
  have H4 := Lib.hid (fun W (v1 : Value) (hg : w.grownBy W none) (h1 : DR W v1 q) => dcmp_calls v1 _ q norm W h1 hs (hn.grown0 hg) hno)
  obtain ⟨c, hc⟩ : ∃ c, c = dcmp q norm := ⟨_, rfl⟩
  simp only [← hc] at H4 eB
  rw [eB]
  unfold NV at H2 H4
  obtain ⟨N1, hN1⟩ : ∃ L, L = (words r.m).length := ⟨_, rfl⟩
  obtain ⟨N2, hN2⟩ : ∃ L, L = (words norm.m).length := ⟨_, rfl⟩
  simp only [← hN1, ← hN2] at H2 H4 x1 y1
  have hnn : ((f : Int)).toNat = f := Int.toNat_natCast f
  have KS : Hid (∀ w' : World, w.grownBy w' none → w'.cell? ⟨Br, 0, none⟩ = some (.bool r.neg) ∧ w'.cell? ⟨Br, 1, none⟩ = some (.slice A1 N1 c1) ∧ w'.cell? ⟨Br, 2, none⟩ = some (.int .i64 r.e) ∧ w'.cell? ⟨Bn, 0, none⟩ = some (.bool norm.neg) ∧ w'.cell? ⟨Bn, 1, none⟩ = some (.slice A2 N2 c2) ∧ w'.cell? ⟨Bn, 2, none⟩ = some (.int .i64 norm.e) ∧ w.grownBy w' none ∧ Tab w') := fun w' h =>
    ⟨cell_ext h x0, cell_ext h x1, cell_ext h x2, cell_ext h y0, cell_ext h y1, cell_ext h y2, h, hT.ext h⟩
  clear hp hss hq hc eB hN1 hN2 hr hn hro hno ff hf hk hs oo hT
  go_enter Tryz.func103, Tryz.ntmps103
  go_upto_region 1 with fail
  go_region_held3 (fun w' : World => w'.cell? ⟨Br, 0, none⟩ = some (.bool r.neg) ∧ w'.cell? ⟨Br, 1, none⟩ = some (.slice A1 N1 c1) ∧ w'.cell? ⟨Br, 2, none⟩ = some (.int .i64 r.e) ∧ w'.cell? ⟨Bn, 0, none⟩ = some (.bool norm.neg) ∧ w'.cell? ⟨Bn, 1, none⟩ = some (.slice A2 N2 c2) ∧ w'.cell? ⟨Bn, 2, none⟩ = some (.int .i64 norm.e) ∧ w.grownBy w' none ∧ Tab w')
    (first
      | with_reducible exact KS.out _ (drew_grown' _)
      | with_reducible exact KS.out _ hGd
      | with_reducible exact KS.out _ hGs
      | with_reducible exact KS.out _ hGp
      | with_reducible exact KS.out _ hGn)
    (first
      | (go_at_call 58; go_split_ands; refine (H1.out _ (by assumption)).mono ?_; rintro e3 wn ⟨vn, rfl, hdn, hbn⟩; have hgn := grown_of_below hbn none; have hGn := grown_trans (show w.grownBy _ none by assumption) hgn; have KN := Lib.hid hdn; clear hdn hbn)
      | (go_at_call 94; go_split_ands; refine (H2.out _ _ (by assumption) KN.out (by assumption)).mono ?_; rintro e3 wp ⟨vp, rfl, hdp, hbp⟩; have hgp := grown_of_below hbp none; have hGp := grown_trans (show w.grownBy _ none by assumption) hgp; have KP := Lib.hid hdp; clear hdp hbp)
      | (go_at_call 95; go_split_ands; refine (H3.out _ _ KP.out (by assumption)).mono ?_; rintro e3 ws ⟨vq, rfl, hds, hbs⟩; have hgs := grown_of_below hbs none; have hGs := grown_trans (show w.grownBy _ none by assumption) hgs; have KQ := Lib.hid hds; clear hds hbs)
      | (go_at_call 102; go_split_ands; refine (H4.out _ _ (by assumption) KQ.out).mono ?_; rintro e3 wd ⟨rfl, hbd⟩; have hgd := grown_of_below hbd none; have hGd := grown_trans (show w.grownBy _ none by assumption) hgd; clear hbd))
  all_goals
    go_wp2
    go_ret
    exact ⟨rfl, hGd⟩
theorem t1 : sqrtF 1 (2 ^ 64) 4 2 = 4616189618054758400 := by decide +kernel
theorem t2 : roundF ⟨false, 1, 0⟩ 2 = 4607182418800017408 := by decide +kernel
theorem t3 : clB ⟨false, 1, 0⟩ ⟨false, 1, 4⟩ 4613937818241073152 = true ∧ clB ⟨false, 1, 0⟩ ⟨false, 1, 4⟩ 4613937818241073153 = false := by decide +kernel
end Go.Proofs.YtjbdadhggejoiaaGreatDoor

namespace Go.Proofs.YtjbdadhggejoiaaGreatDoor
open Go.RowKit
set_option maxRecDepth 100000
attribute [local go_sem] run_frombits run_bits store_f store_c

def d1 : Dy := ⟨false, 1, 0⟩
def d16 : Dy := ⟨false, 1, 4⟩
theorem ok1 : d1.ok := .inr ⟨by decide, by decide, by decide, by decide⟩
theorem ok16 : d16.ok := .inr ⟨by decide, by decide, by decide, by decide⟩
theorem sq16 : SqOk d16.m (2 ^ 64) d16.e := ⟨by decide, by decide +kernel, by decide +kernel, by decide, by decide +kernel, by decide +kernel⟩
theorem mid1 : d1.mid := ⟨by decide, by decide +kernel, by decide +kernel⟩
theorem clok (f : Nat) (h1 : Fin64 f) (h2 : notFar (ofF f) d1) (h3 : (dadd (ofF f) d1).ok) (h4 : (dsqr (dadd (ofF f) d1)).ok) : ClOk d1 d16 f := ⟨h1, h2, h3, h4⟩
theorem cl0 : ClOk d1 d16 4613937818241073152 := ⟨⟨by decide, by decide⟩, .inr (.inr (by decide +kernel)), .inr ⟨by decide +kernel, by decide +kernel, by decide +kernel, by decide +kernel⟩, .inr ⟨by decide +kernel, by decide +kernel, by decide +kernel, by decide +kernel⟩⟩
theorem cl1 : ClOk d1 d16 4613937818241073153 := ⟨⟨by decide, by decide⟩, .inr (.inr (by decide +kernel)), .inr ⟨by decide +kernel, by decide +kernel, by decide +kernel, by decide +kernel⟩, .inr ⟨by decide +kernel, by decide +kernel, by decide +kernel, by decide +kernel⟩⟩
theorem cl2 : ClOk d1 d16 4613937818241073154 := ⟨⟨by decide, by decide⟩, .inr (.inr (by decide +kernel)), .inr ⟨by decide +kernel, by decide +kernel, by decide +kernel, by decide +kernel⟩, .inr ⟨by decide +kernel, by decide +kernel, by decide +kernel, by decide +kernel⟩⟩
theorem cl4 : ClOk d1 d16 4613937818241073156 := ⟨⟨by decide, by decide⟩, .inr (.inr (by decide +kernel)), .inr ⟨by decide +kernel, by decide +kernel, by decide +kernel, by decide +kernel⟩, .inr ⟨by decide +kernel, by decide +kernel, by decide +kernel, by decide +kernel⟩⟩
theorem cb0 : clB d1 d16 4613937818241073152 = true := by decide +kernel
theorem cb1 : clB d1 d16 4613937818241073153 = false := by decide +kernel
theorem cb2 : clB d1 d16 4613937818241073154 = false := by decide +kernel
theorem cb4 : clB d1 d16 4613937818241073156 = false := by decide +kernel
theorem fsub3 (w : World) : (binOp .sub 22 (.float .f64 4616189618054758400) (.float .f64 4607182418800017408)).run Tryz.prog w = .ok (.float .f64 4613937818241073152) w := by kernel_rfl
set_option maxHeartbeats 4000000 in
theorem bleast_calls (v1 v2 : Value) (w : World) (h1 : DR w v1 d16) (h2 : DR w v2 d1) (hT : Tab w) :
    Calls Tryz.prog 63 #[v1, v2] w fun e w' => e = .returned (.float .f64 4613937818241073152) ∧ w.grownBy w' none := by
  obtain ⟨A1, c1, rfl, k1, m1, hW1⟩ := h1
  obtain ⟨A2, c2, rfl, k2, m2, hW2⟩ := h2
  have hN1 : DR w (NV d16.neg A1 (words d16.m).length c1 d16.e) d16 := ⟨A1, c1, rfl, k1, m1, hW1⟩
  have hN2 : DR w (NV d1.neg A2 (words d1.m).length c2 d1.e) d1 := ⟨A2, c2, rfl, k2, m2, hW2⟩
  have hS := fun (W : World) (hg : w.grownBy W none) => droot_calls _ d16 (2 ^ 64) 2 W (hN1.grown0 hg) ok16 rfl sq16 (by decide)
  have hR := fun (W : World) (hg : w.grownBy W none) => dround_calls _ d1 2 W (hN2.grown0 hg) ok1 mid1 (by decide)
  rw [show sqrtF d16.m (2 ^ 64) d16.e 2 = 4616189618054758400 from t1] at hS
  rw [show roundF d1 2 = 4607182418800017408 from t2] at hR
  have hC := fun (W : World) (Br Bn f : Nat) (hg : w.grownBy W none) (h : ClOk d1 d16 f) => lclos_calls d1 d16 f Br Bn A2 A1 c2 c1 W (hN2.grown0 hg) (hN1.grown0 hg) ok1 ok16 h (hT.ext hg)
  unfold NV at hS hR ⊢
  have e1 : (words d1.m).length = 1 := by decide
  have e16 : (words d16.m).length = 1 := by decide
  simp only [e1, e16, show d1.neg = false from rfl, show d16.neg = false from rfl, show d1.e = 0 from rfl, show d16.e = 4 from rfl] at hS hR hC ⊢
  have HS := Lib.hid hS
  have HR := Lib.hid hR
  have HC := Lib.hid hC
  clear hS hR hC hN1 hN2 k1 m1 hW1 k2 m2 hW2 e1 e16 hT
  have hf3 := fsub3
  have hmx : ∀ W : World, (Builtin.max_ #[22, 22] 22 #[.float .f64 4613937818241073152, .float .f64 0]).run Tryz.prog W = .ok (.float .f64 4613937818241073152) W := fun _ => by kernel_rfl
  go_enter Tryz.func63, Tryz.ntmps63
  go_upto_region 1 with fail
  obtain ⟨w2, hw2⟩ : ∃ w2, w2 = (w.alloc (.cells #[.bool false, .slice A1 1 c1, .int .i64 4] 74)).alloc (.cells #[.bool false, .slice A2 1 c2, .int .i64 0] 74) := ⟨_, rfl⟩
  have r0 : w2.heap[w.heap.size]? = some (.cells #[.bool false, .slice A1 1 c1, .int .i64 4] 74 (0, 0)) := by rw [hw2]; exact heap_old (heap_at rfl)
  have r1 : w2.heap[w.heap.size + 1]? = some (.cells #[.bool false, .slice A2 1 c2, .int .i64 0] 74 (0, 0)) := by rw [hw2]; exact heap_at (by simp)
  have hg2 : w.grownBy w2 none := by rw [hw2]; exact grown_trans (grown_alloc _ _ _) (grown_alloc _ _ _)
  rw [← hw2]
  have HB : Hid (∀ (W : World) (f : Nat), w2.grownBy W none → ClOk d1 d16 f → Calls Tryz.prog 103 #[.int .u64 f, .pointer (some ⟨w.heap.size + 1, 0, none⟩), .pointer (some ⟨w.heap.size, 0, none⟩)] W fun e w' => e = .returned (.bool (clB d1 d16 f)) ∧ W.grownBy w' none) := fun W f hg h => by
    obtain ⟨x0, x1, x2⟩ := row3 (heap_grown r0 hg)
    obtain ⟨y0, y1, y2⟩ := row3 (heap_grown r1 hg)
    exact HC.out W _ _ f (grown_trans hg2 hg) h y0 y1 y2 x0 x1 x2
  obtain ⟨x0, x1, x2⟩ := row3 r0
  obtain ⟨y0, y1, y2⟩ := row3 r1
  have HG2 := Lib.hid hg2
  clear hw2 r0 r1 hg2 HC
  go_wp2_with fail
  refine (HS.out _ HG2.out).mono ?_
  rintro e3 w3 ⟨rfl, hg⟩
  obtain ⟨y0, y1, y2⟩ : w3.cell? ⟨w.heap.size + 1, 0, none⟩ = some (.bool false) ∧ w3.cell? ⟨w.heap.size + 1, 1, none⟩ = some (.slice A2 1 c2) ∧ w3.cell? ⟨w.heap.size + 1, 2, none⟩ = some (.int .i64 0) := ⟨cell_ext hg y0, cell_ext hg y1, cell_ext hg y2⟩
  have HG3 := Lib.hid hg
  clear hg x0 x1 x2
  go_wp2_with fail
  refine (HR.out _ (grown_trans HG2.out HG3.out)).mono ?_
  rintro e3 w4 ⟨rfl, hb⟩
  have HG4 := Lib.hid (grown_trans HG3.out (grown_of_below hb none))
  clear hb y0 y1 y2
  go_wp2
  go_loopw [11, 13] (fun v11 v13 wr => v11 = .int .u64 4613937818241073152 ∧ v13 = .int .u64 4 ∧ w2.grownBy wr none) (fun _ _ _ => 0)
  case atStart => exact ⟨rfl, rfl, HG4.out⟩
  case round =>
    obtain ⟨rfl, rfl, hgr⟩ := hrel
    have HC0 := HB.out _ _ hgr cl0
    rw [cb0] at HC0
    have HC0 := Lib.hid HC0
    have HGr := Lib.hid hgr
    clear hgr HG4
    go_wp2_with fail
    refine HC0.out.mono ?_
    rintro e3 w5 ⟨rfl, hg⟩
    have HG5 := Lib.hid (grown_trans HGr.out hg)
    clear hg HC0
    go_wp2
    go_loopw [12, 14] (fun v12 v14 wr => (∃ k : Nat, k ≤ 1 ∧ v12 = .int .u64 (if k = 1 then 4613937818241073152 else 4613937818241073156) ∧ v14 = .int .u64 (if k = 1 then 4 else 64)) ∧ w2.grownBy wr none) (fun v12 _ _ => if intOf v12 = 4613937818241073152 then 1 else 0)
    case atStart => exact ⟨⟨1, by omega, rfl, rfl⟩, HG5.out⟩
    case round =>
      obtain ⟨⟨k, hk, rfl, rfl⟩, hgr⟩ := hrel
      rcases (show k = 1 ∨ k = 0 by omega) with rfl | rfl
      · have HC0 := HB.out _ _ hgr cl0
        rw [cb0] at HC0
        have HC0 := Lib.hid HC0
        have HGr := Lib.hid hgr
        clear hgr HG5 hk
        simp only [if_true]
        go_wp2_with fail
        refine HC0.out.mono ?_
        rintro e3 w6 ⟨rfl, hg⟩
        have HG6 := Lib.hid (grown_trans HGr.out hg)
        clear hg HC0
        go_wp2
        exact ⟨⟨⟨0, by omega, rfl, rfl⟩, HG6.out⟩, by decide⟩
      · have HC0 := HB.out _ _ hgr cl4
        rw [cb4] at HC0
        have HC0 := Lib.hid HC0
        have HGr := Lib.hid hgr
        clear hgr HG5 hk
        simp only [show ¬ (0 : Nat) = 1 by decide, if_false]
        go_wp2_with fail
        refine HC0.out.mono ?_
        rintro e3 w6 ⟨rfl, hg⟩
        have HG6 := Lib.hid (grown_trans HGr.out hg)
        clear hg HC0
        go_wp2
        go_loopw [11, 12] (fun v11 v12 wr => v11 = .int .u64 4613937818241073152 ∧ (v12 = .int .u64 4613937818241073156 ∨ v12 = .int .u64 4613937818241073153 ∨ v12 = .int .u64 4613937818241073152) ∧ w2.grownBy wr none) (fun _ v12 _ => (intOf v12 - 4613937818241073152).toNat)
        case atStart => exact ⟨rfl, .inl rfl, HG6.out⟩
        case round =>
          obtain ⟨rfl, h12, hgr⟩ := hrel
          rcases h12 with rfl | rfl | rfl
          · have HC0 := HB.out _ _ hgr cl2
            rw [cb2] at HC0
            have HC0 := Lib.hid HC0
            have HGr := Lib.hid hgr
            clear hgr HG6
            go_wp2_with fail
            refine HC0.out.mono ?_
            rintro e3 w6 ⟨rfl, hg⟩
            have HG6 := Lib.hid (grown_trans HGr.out hg)
            clear hg HC0
            go_wp2
            exact ⟨⟨rfl, .inr (.inl rfl), HG6.out⟩, by decide⟩
          · have HC0 := HB.out _ _ hgr cl1
            rw [cb1] at HC0
            have HC0 := Lib.hid HC0
            have HGr := Lib.hid hgr
            clear hgr HG6
            go_wp2_with fail
            refine HC0.out.mono ?_
            rintro e3 w6 ⟨rfl, hg⟩
            have HG6 := Lib.hid (grown_trans HGr.out hg)
            clear hg HC0
            go_wp2
            exact ⟨⟨rfl, .inr (.inr rfl), HG6.out⟩, by decide⟩
          · have HF := Lib.hid (grown_trans HG2.out hgr)
            clear hgr HG6
            go_wp2
            go_ret
            exact ⟨rfl, HF.out⟩
end Go.Proofs.YtjbdadhggejoiaaGreatDoor

namespace Go.Proofs.YtjbdadhggejoiaaGreatDoor
open Go.RowKit
set_option maxRecDepth 100000
attribute [local go_sem] run_frombits run_bits store_f store_c

/-- a variable that holds a number -/
def VarN (w3 wx : World) (B : Nat) (neg : Bool) (m : Nat) (e : Int) (A : Option Addr) (c : Nat) : Prop := ∃ t, wx.heap[B]? = some (.cells #[.bool neg, .slice A (words m).length c, .int .i64 e] t (0, 0)) ∧ DR wx (NV neg A (words m).length c e) ⟨neg, m, e⟩ ∧ w3.grownBy wx none
theorem VarN.alloc {w3 w : World} {neg : Bool} {m : Nat} {e : Int} {A : Option Addr} {c : Nat} {t : TypeId} (h : DR w (NV neg A (words m).length c e) ⟨neg, m, e⟩) (hg : w3.grownBy w none) : VarN w3 (w.alloc (.cells #[.bool neg, .slice A (words m).length c, .int .i64 e] t)) w.heap.size neg m e A c :=
  ⟨t, heap_alloc_new w _, h.grown0 (grown_alloc _ _ _), grown_trans hg (grown_alloc _ _ _)⟩
theorem VarN.ext {w3 wx wy : World} {B : Nat} {neg : Bool} {m : Nat} {e : Int} {A : Option Addr} {c : Nat} (h : VarN w3 wx B neg m e A c) (hg : wx.grownBy wy none) : VarN w3 wy B neg m e A c := by
  obtain ⟨t, h1, h2, h3⟩ := h
  exact ⟨t, heap_grown h1 hg, h2.grown0 hg, grown_trans h3 hg⟩
theorem three_grown {w3 w : World} {B : Nat} {a b c : Value} (hg : w3.grownBy w none) (hB : w3.heap.size ≤ B) : w3.grownBy (((w.setCell ⟨B, 0, none⟩ a).setCell ⟨B, 1, none⟩ b).setCell ⟨B, 2, none⟩ c) none :=
  grown_set_new (grown_set_new (grown_set_new hg hB) hB) hB
theorem three_gr {w : World} {B : Nat} {a b c : Value} : w.grownBy (((w.setCell ⟨B, 0, none⟩ a).setCell ⟨B, 1, none⟩ b).setCell ⟨B, 2, none⟩ c) (some B) :=
  grown_trans (grown_trans grown_setCell grown_setCell) grown_setCell
theorem VarN.set {w3 w : World} {B : Nat} {neg : Bool} {m : Nat} {e : Int} {A : Option Addr} {c : Nat} (h : Three w B) (hN : DR w (NV neg A (words m).length c e) ⟨neg, m, e⟩) (hg : w3.grownBy w none) (hB : w3.heap.size ≤ B) : VarN w3 (((w.setCell ⟨B, 0, none⟩ (.bool neg)).setCell ⟨B, 1, none⟩ (.slice A (words m).length c)).setCell ⟨B, 2, none⟩ (.int .i64 e)) B neg m e A c := by
  have hr := h.rec'
  obtain ⟨x, A0, n, c0, e0, t, h⟩ := h
  have s0 := heap_setCell_same w B 0 _ t (.bool neg) h
  have s1 := heap_setCell_same _ B 1 _ t (.slice A (words m).length c) s0
  have s2 := heap_setCell_same _ B 2 _ t (.int .i64 e) s1
  exact ⟨t, s2, NR.grownR hN three_gr hr, three_grown hg hB⟩
theorem VarN.other {w3 w : World} {B B' : Nat} {neg : Bool} {m : Nat} {e : Int} {A : Option Addr} {c : Nat} {a b d : Value} (h : VarN w3 w B neg m e A c) (h' : Three w B') (hne : B ≠ B') (hB : w3.heap.size ≤ B') : VarN w3 (((w.setCell ⟨B', 0, none⟩ a).setCell ⟨B', 1, none⟩ b).setCell ⟨B', 2, none⟩ d) B neg m e A c := by
  obtain ⟨t, h1, h2, h3⟩ := h
  exact ⟨t, by rw [heap_set_out hne, heap_set_out hne, heap_set_out hne]; exact h1, NR.grownR h2 three_gr h'.rec', three_grown h3 hB⟩
theorem Three.out {w : World} {b i r : Nat} {v : Value} (h : Three w r) (hne : r ≠ b) : Three (w.setCell ⟨b, i, none⟩ v) r := by
  obtain ⟨x, A, n, c, e, t, h⟩ := h
  exact ⟨x, A, n, c, e, t, (heap_set_out hne).trans h⟩

/-- the ball that is tried: 4, 1 -/
theorem n1 : ofF 4607182418800017408 = d1 := by decide +kernel
theorem a16 : apartD 4616189618054758400 0 0 0 = d16 := by decide +kernel
theorem apk : ApartOk 4616189618054758400 0 0 0 := ⟨⟨by decide, by decide⟩, ⟨by decide, by decide⟩, ⟨by decide, by decide⟩, ⟨by decide, by decide⟩, .inr (.inl (by decide +kernel)), .inr ⟨by decide +kernel, by decide +kernel, by decide +kernel, by decide +kernel⟩, .inl (by decide +kernel), .inl ⟨by decide +kernel, by decide +kernel, by decide +kernel⟩, .inr ⟨by decide +kernel, by decide +kernel, by decide +kernel, by decide +kernel⟩, .inl ⟨by decide +kernel, by decide +kernel, by decide +kernel⟩, .inr (.inl (by decide +kernel)), .inr ⟨by decide +kernel, by decide +kernel, by decide +kernel, by decide +kernel⟩⟩
end Go.Proofs.YtjbdadhggejoiaaGreatDoor
