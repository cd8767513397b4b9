/- 'dyad': the least float not below a sum of roots, where the one told is it.
   'dyad': Up, where what is near is it.
   'dyad': Up of 1 and the root of 16: 5.
   small functions of balls: same, finite, whole, valid.
   numbers of floats, sums and squares, as balls, roots and roundings take them.
   balls: how far two values are apart, squared. -/
import Derived.Test.YtjbdadhggejoiaaGreatDoorM25
import Derived.Test.YtjbdadhggejoiaaGreatDoorM24
import Derived.Test.YtjbdadhggejoiaaGreatDoorM23
import Derived.Test.YtjbdadhggejoiaaGreatDoorM19

namespace Go.Proofs.YtjbdadhggejoiaaGreatDoor
open Go.RowKit
set_option maxRecDepth 100000

def fBits : Value → Nat | .float _ n => n | _ => 0
set_option maxHeartbeats 4000000 in
theorem sleast_calls (b1 b2 b3 : Nat) (c p q : Ex) (f : Nat) (w : World) (hI1 : IR w b1 c.z) (hI2 : IR w b2 p.z) (hI3 : IR w b3 q.z) (hT : Tab w) (hf0 : 1 < f) (hf1 : f < 9218868437227405312)
    (hc1 : ∀ (W : World), IR W b1 c.z → IR W b2 p.z → IR W b3 q.z → Tab W → Calls Tryz.prog 101 #[SV b1 b2 b3 c p q, .float .f64 (f - 1)] W fun en w' => en = .returned (.int .i64 1) ∧ W.grownBy w' none)
    (hc0 : ∀ (W : World), IR W b1 c.z → IR W b2 p.z → IR W b3 q.z → Tab W → Calls Tryz.prog 101 #[SV b1 b2 b3 c p q, .float .f64 f] W fun en w' => en = .returned (.int .i64 0) ∧ W.grownBy w' none) :
    Calls Tryz.prog 100 #[SV b1 b2 b3 c p q, .float .f64 f, .float .f64 f] w fun en w' => en = .returned (.float .f64 f) ∧ w.grownBy w' none := by
  have HD := Lib.hid (fun W => stepd_calls f W (by omega) hf1)
  have hu := fun W => stepu_calls (f - 1) W (by omega) (by omega)
  rw [show f - 1 + 1 = f by omega] at hu
  have HU := Lib.hid hu
  have ho : (FloatKind.f64.format.order f f == some Ordering.gt) = false := by rw [dbl, order_self (fin_of hf1).1]; rfl
  obtain ⟨g, hg⟩ : ∃ g, g = f - 1 := ⟨_, rfl⟩
  have hgf : g ≠ f := by omega
  rw [← hg] at hc1
  simp only [← hg] at HD HU
  have K : Hid (∀ W, w.grownBy W none → IR W b1 c.z ∧ IR W b2 p.z ∧ IR W b3 q.z ∧ Tab W) := fun W h => ⟨hI1.grown0 h, hI2.grown0 h, hI3.grown0 h, hT.ext h⟩
  unfold SV at hc0 hc1 ⊢
  have HC0 := Lib.hid hc0
  have HC1 := Lib.hid hc1
  clear hI1 hI2 hI3 hT hc0 hc1 hu hg hf0 hf1
  go_enter Tryz.func100, Tryz.ntmps100
  go_upto_region 1 with fail
  obtain ⟨w2, hw2⟩ : ∃ w2, w2 = w.alloc (.cells #[.pointer (some ⟨b1, 0, none⟩), .int .i64 c.e, .pointer (some ⟨b2, 0, none⟩), .int .i64 p.e, .pointer (some ⟨b3, 0, none⟩), .int .i64 q.e] 123) := ⟨_, rfl⟩
  have r0 : w2.heap[w.heap.size]? = some (.cells #[.pointer (some ⟨b1, 0, none⟩), .int .i64 c.e, .pointer (some ⟨b2, 0, none⟩), .int .i64 p.e, .pointer (some ⟨b3, 0, none⟩), .int .i64 q.e] 123 (0, 0)) := by rw [hw2]; exact heap_at rfl
  have hg2 : w.grownBy w2 none := by rw [hw2]; exact grown_alloc _ _ _
  rw [← hw2]
  have K2 : Hid (∀ W, w2.grownBy W none → (W.cell? ⟨w.heap.size, 0, none⟩ = some (.pointer (some ⟨b1, 0, none⟩)) ∧ W.cell? ⟨w.heap.size, 1, none⟩ = some (.int .i64 c.e) ∧ W.cell? ⟨w.heap.size, 2, none⟩ = some (.pointer (some ⟨b2, 0, none⟩)) ∧ W.cell? ⟨w.heap.size, 3, none⟩ = some (.int .i64 p.e) ∧ W.cell? ⟨w.heap.size, 4, none⟩ = some (.pointer (some ⟨b3, 0, none⟩)) ∧ W.cell? ⟨w.heap.size, 5, none⟩ = some (.int .i64 q.e)) ∧ w.grownBy W none) := fun W h => ⟨row6 (heap_grown r0 h), grown_trans hg2 h⟩
  clear hw2 r0 hg2
  go_wp2_with fail
  refine (HD.out _).mono ?_
  rintro e1 w8 ⟨rfl, hw8⟩
  obtain rfl := hw8
  go_wp2
  go_loopw [1, 2] (fun v1 v2 wr => (∃ k : Nat, k ≤ 1 ∧ v1 = .float .f64 (if k = 1 then g else f)) ∧ v2 = .float .f64 f ∧ w2.grownBy wr none) (fun v1 _ _ => if fBits v1 = g then 1 else 0)
  case atStart => exact ⟨⟨1, by omega, rfl⟩, rfl, grown_refl _⟩
  case round =>
    obtain ⟨⟨k, hk, rfl⟩, rfl, hgr⟩ := hrel
    obtain ⟨⟨x0, x1, x2, x3, x4, x5⟩, hgw⟩ := K2.out _ hgr
    obtain ⟨h1, h2, h3, hT⟩ := K.out _ hgw
    rcases (show k = 1 ∨ k = 0 by omega) with rfl | rfl
    · have HC := Lib.hid (HC1.out _ h1 h2 h3 hT)
      have HGR := Lib.hid hgr
      rw [if_pos rfl]
      clear h1 h2 h3 hT hgw hgr hk
      go_wp2_with fail
      refine HC.out.mono ?_
      rintro e1 w9 ⟨rfl, hg9⟩
      have HG9 := Lib.hid (grown_trans HGR.out hg9)
      clear hg9 x0 x1 x2 x3 x4 x5
      go_wp2_with fail
      refine (HU.out _).mono ?_
      rintro e1 w8 ⟨rfl, hw8⟩
      obtain rfl := hw8
      go_wp2
      refine ⟨⟨⟨0, by omega, rfl⟩, rfl, HG9.out⟩, ?_⟩
      have h1 : ¬ fBits (.float .f64 f) = g := fun h => hgf h.symm
      have h2 : fBits (.float .f64 g) = g := rfl
      show (if fBits (.float .f64 f) = g then 1 else 0) < (if fBits (.float .f64 g) = g then 1 else 0)
      rw [if_neg h1, if_pos h2]
      decide
    · have HC := Lib.hid (HC0.out _ h1 h2 h3 hT)
      have HGR := Lib.hid hgw
      rw [if_neg (show ¬ (0 : Nat) = 1 by decide)]
      clear h1 h2 h3 hT hgw hgr hk
      go_wp2_with fail
      refine HC.out.mono ?_
      rintro e1 w9 ⟨rfl, hg9⟩
      have HG9 := Lib.hid (grown_trans HGR.out hg9)
      clear hg9 x0 x1 x2 x3 x4 x5
      go_wp2
      go_ret
      exact ⟨rfl, HG9.out⟩
end Go.Proofs.YtjbdadhggejoiaaGreatDoor

namespace Go.Proofs.YtjbdadhggejoiaaGreatDoor
open Go.RowKit
set_option maxRecDepth 100000

/-- a block of six cells that holds a sum -/
def Six (w : World) (b : Nat) : Prop := ∃ x0 e0 x1 e1 x2 e2 t, w.heap[b]? = some (.cells #[.pointer x0, .int .i64 e0, .pointer x1, .int .i64 e1, .pointer x2, .int .i64 e2] t (0, 0))
theorem Six.grown {w w' : World} {b : Nat} (h : Six w b) (hg : w.grownBy w' none) : Six w' b := by
  obtain ⟨x0, e0, x1, e1, x2, e2, t, h⟩ := h
  exact ⟨x0, e0, x1, e1, x2, e2, t, heap_grown h hg⟩
theorem Six.open {w : World} {b : Nat} (h : Six w b) : ∃ x0 e0 x1 e1 x2 e2, w.cell? ⟨b, 0, none⟩ = some (.pointer x0) ∧ w.cell? ⟨b, 1, none⟩ = some (.int .i64 e0) ∧ w.cell? ⟨b, 2, none⟩ = some (.pointer x1) ∧ w.cell? ⟨b, 3, none⟩ = some (.int .i64 e1) ∧ w.cell? ⟨b, 4, none⟩ = some (.pointer x2) ∧ w.cell? ⟨b, 5, none⟩ = some (.int .i64 e2) ∧ w.frozen? ⟨b, 0, none⟩ = false ∧ w.frozen? ⟨b, 1, none⟩ = false ∧ w.frozen? ⟨b, 2, none⟩ = false ∧ w.frozen? ⟨b, 3, none⟩ = false ∧ w.frozen? ⟨b, 4, none⟩ = false ∧ w.frozen? ⟨b, 5, none⟩ = false := by
  obtain ⟨x0, e0, x1, e1, x2, e2, t, h⟩ := h
  obtain ⟨h0, h1, h2, h3, h4, h5⟩ := row6 h
  exact ⟨x0, e0, x1, e1, x2, e2, h0, h1, h2, h3, h4, h5, (row_cells h 0).2, (row_cells h 1).2, (row_cells h 2).2, (row_cells h 3).2, (row_cells h 4).2, (row_cells h 5).2⟩
theorem six_grown {w w' : World} {B : Nat} {v0 v1 v2 v3 v4 v5 : Value} (h : w.grownBy w' none) (hB : w.heap.size ≤ B) : w.grownBy ((((((w'.setCell ⟨B, 0, none⟩ v0).setCell ⟨B, 1, none⟩ v1).setCell ⟨B, 2, none⟩ v2).setCell ⟨B, 3, none⟩ v3).setCell ⟨B, 4, none⟩ v4).setCell ⟨B, 5, none⟩ v5) none :=
  grown_set_new (grown_set_new (grown_set_new (grown_set_new (grown_set_new (grown_set_new h hB) hB) hB) hB) hB) hB
theorem six_ne {w : World} {b r : Nat} {z : Int} (h : Six w r) (hI : IR w b z) : b ≠ r := fun e => by
  obtain ⟨x0, e0, x1, e1, x2, e2, t, h1⟩ := h
  obtain ⟨A, c, t2, h2, _⟩ := hI
  rw [e, h1] at h2
  simp at h2
theorem six_rec {w : World} {b : Nat} (h : Six w b) : Rec w b := by
  obtain ⟨x0, e0, x1, e1, x2, e2, t, h⟩ := h
  refine ⟨_, t, h, fun i u hu n => ?_⟩
  match i with
  | 0 => simp at hu; subst hu; simp
  | 1 => simp at hu; subst hu; simp
  | 2 => simp at hu; subst hu; simp
  | 3 => simp at hu; subst hu; simp
  | 4 => simp at hu; subst hu; simp
  | 5 => simp at hu; subst hu; simp
  | i + 6 => simp at hu
theorem six_put {w3 w : World} {B ba bb bd : Nat} {zc zp zq e0 e1 e2 : Int} (h : Six w B) (ha : IR w ba zc) (hb : IR w bb zp) (hd : IR w bd zq) (hg : w3.grownBy w none) (hB : w3.heap.size ≤ B) :
    (fun wx : World => (wx.cell? ⟨B, 0, none⟩ = some (.pointer (some ⟨ba, 0, none⟩)) ∧ wx.cell? ⟨B, 1, none⟩ = some (.int .i64 e0) ∧ wx.cell? ⟨B, 2, none⟩ = some (.pointer (some ⟨bb, 0, none⟩)) ∧ wx.cell? ⟨B, 3, none⟩ = some (.int .i64 e1) ∧ wx.cell? ⟨B, 4, none⟩ = some (.pointer (some ⟨bd, 0, none⟩)) ∧ wx.cell? ⟨B, 5, none⟩ = some (.int .i64 e2)) ∧ IR wx ba zc ∧ IR wx bb zp ∧ IR wx bd zq ∧ w3.grownBy wx none)
    ((((((w.setCell ⟨B, 0, none⟩ (.pointer (some ⟨ba, 0, none⟩))).setCell ⟨B, 1, none⟩ (.int .i64 e0)).setCell ⟨B, 2, none⟩ (.pointer (some ⟨bb, 0, none⟩))).setCell ⟨B, 3, none⟩ (.int .i64 e1)).setCell ⟨B, 4, none⟩ (.pointer (some ⟨bd, 0, none⟩))).setCell ⟨B, 5, none⟩ (.int .i64 e2)) := by
  have hr := six_rec h
  have n1 := six_ne h ha
  have n2 := six_ne h hb
  have n3 := six_ne h hd
  obtain ⟨y0, f0, y1, f1, y2, f2, t, h⟩ := h
  have s0 := heap_setCell_same w B 0 _ t (.pointer (some ⟨ba, 0, none⟩)) h
  have s1 := heap_setCell_same _ B 1 _ t (.int .i64 e0) s0
  have s2 := heap_setCell_same _ B 2 _ t (.pointer (some ⟨bb, 0, none⟩)) s1
  have s3 := heap_setCell_same _ B 3 _ t (.int .i64 e1) s2
  have s4 := heap_setCell_same _ B 4 _ t (.pointer (some ⟨bd, 0, none⟩)) s3
  have s5 := heap_setCell_same _ B 5 _ t (.int .i64 e2) s4
  have hG := (grown_trans (grown_trans (grown_trans (grown_trans (grown_trans (grown_setCell (w := w) (b := B) (i := 0) (v := .pointer (some ⟨ba, 0, none⟩))) (grown_setCell (i := 1) (v := .int .i64 e0))) (grown_setCell (i := 2) (v := .pointer (some ⟨bb, 0, none⟩)))) (grown_setCell (i := 3) (v := .int .i64 e1))) (grown_setCell (i := 4) (v := .pointer (some ⟨bd, 0, none⟩)))) (grown_setCell (i := 5) (v := .int .i64 e2)))
  exact ⟨row6 s5, ha.grownR hG n1 hr, hb.grownR hG n2 hr, hd.grownR hG n3 hr, six_grown hg hB⟩
theorem cell9 {w : World} {b : Nat} {c0 c1 c2 c3 c4 c5 c6 c7 c8 : Value} {t : TypeId} (h : w.heap[b]? = some (.cells #[c0, c1, c2, c3, c4, c5, c6, c7, c8] t (0, 0))) (i : Nat) (v : Value) (hv : (#[c0, c1, c2, c3, c4, c5, c6, c7, c8] : Array Value)[i]? = some v) : w.cell? ⟨b, i, none⟩ = some v := by
  simp only [World.cell?, h]
  simpa using hv

set_option maxHeartbeats 4000000 in
theorem dup_calls (v1 v2 v3 : Value) (c p q : Dy) (f : Nat) (w : World) (hv1 : DR w v1 c) (ho1 : c.ok) (hv2 : DR w v2 p) (ho2 : p.ok) (hv3 : DR w v3 q) (ho3 : q.ok) (hT : Tab w) (hpn : p.neg = false) (hqn : q.neg = false) (hf0 : 1 < f) (hf1 : f + 2 < 9218868437227405312)
    (hn : ∀ (W : World) (b1 b2 b3 : Nat), IR W b1 c.z → IR W b2 p.z → IR W b3 q.z → Calls Tryz.prog 98 #[SV b1 b2 b3 ⟨c.z, c.e⟩ ⟨p.z, p.e⟩ ⟨q.z, q.e⟩, .int .i64 128] W fun en w' => en = .returned (.tuple #[.float .f64 f, .float .f64 f]) ∧ W.grownBy w' none)
    (hl : ∀ (W : World) (b1 b2 b3 : Nat), IR W b1 c.z → IR W b2 p.z → IR W b3 q.z → Tab W → Calls Tryz.prog 100 #[SV b1 b2 b3 ⟨c.z, c.e⟩ ⟨p.z, p.e⟩ ⟨q.z, q.e⟩, .float .f64 f, .float .f64 f] W fun en w' => en = .returned (.float .f64 f) ∧ W.grownBy w' none) :
    Calls Tryz.prog 60 #[v1, v2, v3] w fun en w' => en = .returned (.tuple #[.float .f64 f, .int .i64 0]) ∧ w.grownBy w' none := by
  obtain ⟨A1, c1, rfl, hc1, hm1, hW1⟩ := hv1
  obtain ⟨A2, c2, rfl, hc2, hm2, hW2⟩ := hv2
  obtain ⟨A3, c3, rfl, hc3, hm3, hW3⟩ := hv3
  have hN1 : NR w (NV c.neg A1 (words c.m).length c1 c.e) c.neg c.m c.e := ⟨A1, c1, rfl, hc1, hm1, hW1⟩
  have hN2 : NR w (NV p.neg A2 (words p.m).length c2 p.e) p.neg p.m p.e := ⟨A2, c2, rfl, hc2, hm2, hW2⟩
  have hN3 : NR w (NV q.neg A3 (words q.m).length c3 q.e) q.neg q.m q.e := ⟨A3, c3, rfl, hc3, hm3, hW3⟩
  have hval := fun (B : Nat) (W : World) (t : TypeId) (h : W.heap.size = B) (hg : w.grownBy W none) => dvalids_calls B 3 (W.alloc (.cells #[.bool c.neg, .slice A1 (words c.m).length c1, .int .i64 c.e, .bool p.neg, .slice A2 (words p.m).length c2, .int .i64 p.e, .bool q.neg, .slice A3 (words q.m).length c3, .int .i64 q.e] t)) (by decide) (fun i hi => by
    rcases (show i = 0 ∨ i = 1 ∨ i = 2 by omega) with rfl | rfl | rfl
    · exact at3_of ho1 (cell_new h 0) (cell_new h 1) (cell_new h 2) (hN1.grown0 (grown_trans hg (grown_alloc _ _ _)))
    · exact at3_of ho2 (cell_new h 3) (cell_new h 4) (cell_new h 5) (hN2.grown0 (grown_trans hg (grown_alloc _ _ _)))
    · exact at3_of ho3 (cell_new h 6) (cell_new h 7) (cell_new h 8) (hN3.grown0 (grown_trans hg (grown_alloc _ _ _))))
  have ho1' := fun (W : World) (h : w.grownBy W none) => dexof_calls _ c W (hN1.grown0 h) ho1
  have ho2' := fun (W : World) (h : w.grownBy W none) => dexof_calls _ p W (hN2.grown0 h) ho2
  have ho3' := fun (W : World) (h : w.grownBy W none) => dexof_calls _ q W (hN3.grown0 h) ho3
  unfold NV at ho1' ho2' ho3' ⊢
  obtain ⟨N1, hN1e⟩ : ∃ N, N = (words c.m).length := ⟨_, rfl⟩
  obtain ⟨N2, hN2e⟩ : ∃ N, N = (words p.m).length := ⟨_, rfl⟩
  obtain ⟨N3, hN3e⟩ : ∃ N, N = (words q.m).length := ⟨_, rfl⟩
  simp only [← hN1e, ← hN2e, ← hN3e] at hval ho1' ho2' ho3' ⊢
  rw [hpn] at hval ho2' ⊢
  rw [hqn] at hval ho3' ⊢
  have HV := Lib.hid hval
  have HO1 := Lib.hid ho1'
  have HO2 := Lib.hid ho2'
  have HO3 := Lib.hid ho3'
  unfold SV at hn hl
  have HN := Lib.hid hn
  have HL := Lib.hid hl
  have HT := Lib.hid hT
  have HU1 := Lib.hid (fun W => stepu_calls f W (by omega) (by omega))
  have HU2 := Lib.hid (fun W => stepu_calls (f + 1) W (by omega) (by omega))
  have hff : (FloatKind.f64.format.order (f + 1 + 1) f == some Ordering.lt) = false := by
    rw [dbl, order_pos (by omega) (by omega), if_neg (by omega), if_neg (by omega)]; rfl
  have hfz : (FloatKind.f64.format.order f 0 == some Ordering.eq) = false := by
    rw [dbl, order_pos (by omega) (by omega), if_neg (by omega), if_neg (by omega)]; rfl
  obtain ⟨n1, hn1⟩ : ∃ n, n = c.neg := ⟨_, rfl⟩
  clear hval ho1' ho2' ho3' hn hl hT hN1 hN2 hN3 hN1e hN2e hN3e hc1 hc2 hc3 hm1 hm2 hm3 hW1 hW2 hW3 hn1
  go_enter Tryz.func60, Tryz.ntmps60
  go_upto_region 1 with fail
  obtain ⟨w3, hw3⟩ : ∃ w3, w3 = (((w.alloc (.cells #[.bool c.neg, .slice A1 N1 c1, .int .i64 c.e] 74)).alloc (.cells #[.bool false, .slice A2 N2 c2, .int .i64 p.e] 74)).alloc (.cells #[.bool false, .slice A3 N3 c3, .int .i64 q.e] 74)) := ⟨_, rfl⟩
  have r0 : w3.heap[w.heap.size]? = some (.cells #[.bool c.neg, .slice A1 N1 c1, .int .i64 c.e] 74 (0, 0)) := by rw [hw3]; exact heap_old (heap_old (heap_at rfl))
  have r1 : w3.heap[w.heap.size + 1]? = some (.cells #[.bool false, .slice A2 N2 c2, .int .i64 p.e] 74 (0, 0)) := by rw [hw3]; exact heap_old (heap_at (by simp))
  have r2 : w3.heap[w.heap.size + 1 + 1]? = some (.cells #[.bool false, .slice A3 N3 c3, .int .i64 q.e] 74 (0, 0)) := by rw [hw3]; exact heap_at (by simp)
  have hg3 : w.grownBy w3 none := by rw [hw3]; exact grown_trans (grown_trans (grown_alloc _ _ _) (grown_alloc _ _ _)) (grown_alloc _ _ _)
  rw [← hw3]
  obtain ⟨x0, x1, x2⟩ := row3 r0
  obtain ⟨y0, y1, y2⟩ := row3 r1
  obtain ⟨z0, z1, z2⟩ := row3 r2
  have HG3 := Lib.hid hg3
  have KS : Hid (∀ w' : World, w3.grownBy w' none → w'.cell? ⟨w.heap.size, 0, none⟩ = some (.bool c.neg) ∧ w'.cell? ⟨w.heap.size, 1, none⟩ = some (.slice A1 N1 c1) ∧ w'.cell? ⟨w.heap.size, 2, none⟩ = some (.int .i64 c.e) ∧ w'.cell? ⟨w.heap.size + 1, 0, none⟩ = some (.bool false) ∧ w'.cell? ⟨w.heap.size + 1, 1, none⟩ = some (.slice A2 N2 c2) ∧ w'.cell? ⟨w.heap.size + 1, 2, none⟩ = some (.int .i64 p.e) ∧ w'.cell? ⟨w.heap.size + 1 + 1, 0, none⟩ = some (.bool false) ∧ w'.cell? ⟨w.heap.size + 1 + 1, 1, none⟩ = some (.slice A3 N3 c3) ∧ w'.cell? ⟨w.heap.size + 1 + 1, 2, none⟩ = some (.int .i64 q.e) ∧ w3.grownBy w' none) := fun w' h =>
    ⟨cell_ext h x0, cell_ext h x1, cell_ext h x2, cell_ext h y0, cell_ext h y1, cell_ext h y2, cell_ext h z0, cell_ext h z1, cell_ext h z2, h⟩
  have hlt0 : w.heap.size < w3.heap.size := (Array.getElem?_eq_some_iff.1 r0).1
  have hlt1 : w.heap.size + 1 < w3.heap.size := (Array.getElem?_eq_some_iff.1 r1).1
  have hlt2 : w.heap.size + 1 + 1 < w3.heap.size := (Array.getElem?_eq_some_iff.1 r2).1
  clear hw3 r0 r1 r2 hg3
  go_wp2_with fail
  refine (HV.out _ _ _ rfl HG3.out).mono ?_
  rintro e1 w4 ⟨rfl, hg4⟩
  have HG4 := Lib.hid (grown_trans (grown_alloc w3 _ none) hg4)
  obtain ⟨x0, x1, x2, y0, y1, y2, z0, z1, z2, _⟩ := KS.out _ HG4.out
  clear hg4 HV
  go_upto_region 5 with fail
  go_cut [8] (fun v8 wx => ∃ B8 ba bb bd, v8 = .pointer (some ⟨B8, 0, none⟩) ∧ (wx.cell? ⟨B8, 0, none⟩ = some (.pointer (some ⟨ba, 0, none⟩)) ∧ wx.cell? ⟨B8, 1, none⟩ = some (.int .i64 c.e) ∧ wx.cell? ⟨B8, 2, none⟩ = some (.pointer (some ⟨bb, 0, none⟩)) ∧ wx.cell? ⟨B8, 3, none⟩ = some (.int .i64 p.e) ∧ wx.cell? ⟨B8, 4, none⟩ = some (.pointer (some ⟨bd, 0, none⟩)) ∧ wx.cell? ⟨B8, 5, none⟩ = some (.int .i64 q.e)) ∧ IR wx ba c.z ∧ IR wx bb p.z ∧ IR wx bd q.z ∧ w3.grownBy wx none)
  case first =>
    go_region_held3 (fun w' : World => w'.cell? ⟨w.heap.size, 0, none⟩ = some (.bool c.neg) ∧ w'.cell? ⟨w.heap.size, 1, none⟩ = some (.slice A1 N1 c1) ∧ w'.cell? ⟨w.heap.size, 2, none⟩ = some (.int .i64 c.e) ∧ w'.cell? ⟨w.heap.size + 1, 0, none⟩ = some (.bool false) ∧ w'.cell? ⟨w.heap.size + 1, 1, none⟩ = some (.slice A2 N2 c2) ∧ w'.cell? ⟨w.heap.size + 1, 2, none⟩ = some (.int .i64 p.e) ∧ w'.cell? ⟨w.heap.size + 1 + 1, 0, none⟩ = some (.bool false) ∧ w'.cell? ⟨w.heap.size + 1 + 1, 1, none⟩ = some (.slice A3 N3 c3) ∧ w'.cell? ⟨w.heap.size + 1 + 1, 2, none⟩ = some (.int .i64 q.e) ∧ w3.grownBy w' none)
      (first
        | (with_reducible refine KS.out _ ?_; with_reducible refine six_grown hGd ?_; first | exact hsb | exact hsa | exact HG4.out.size)
        | with_reducible exact KS.out _ (grown_trans HG4.out (drew_grown _))
        | with_reducible exact KS.out _ hGa
        | with_reducible exact KS.out _ hGb
        | with_reducible exact KS.out _ hGd
        | (go_split_ands; with_reducible exact KS.out _ (grown_trans (by assumption) (grown_alloc _ _ _)))
        | (go_split_ands; with_reducible exact KS.out _ (grown_trans (by assumption) (drew_grown _))))
      (first
        | (go_at_call_of 97 (Value.agg #[.bool c.neg, .slice A1 N1 c1, .int .i64 c.e]); go_split_ands; refine (HO1.out _ (grown_trans HG3.out (by assumption))).mono ?_; intro e1 wa hh; obtain ⟨ba, rfl, hIa, hga⟩ := hh.grow; have hGa := grown_trans (show w3.grownBy _ none by assumption) hga; have Ha := Lib.hid hIa; (try (have Hb := Lib.hid (Hb.out.grown0 (by first | with_reducible exact hga | with_reducible exact grown_trans (grown_alloc _ _ _) hga | with_reducible exact grown_trans (drew_grown _) hga | with_reducible exact grown_trans (grown_trans (grown_alloc _ _ _) (drew_grown _)) hga)))); (try (have Hd := Lib.hid (Hd.out.grown0 (by first | with_reducible exact hga | with_reducible exact grown_trans (grown_alloc _ _ _) hga | with_reducible exact grown_trans (drew_grown _) hga | with_reducible exact grown_trans (grown_trans (grown_alloc _ _ _) (drew_grown _)) hga)))); (first | (have hSd : Six wa _ := (by with_reducible exact Six.grown hSd hga); obtain ⟨m0, m1, m2, m3, m4, m5, k0, k1, k2, k3, k4, k5, k6, k7, k8, k9, k10, k11⟩ := hSd.open; have hBl := IR.lt hIa) | (have hgn : (w4.alloc (.cells #[.pointer none, .int .i64 0, .pointer none, .int .i64 0, .pointer none, .int .i64 0] 123)).grownBy wa none := (by first | with_reducible exact hga | with_reducible exact grown_trans (drew_grown _) hga); have hSd : Six wa w4.heap.size := Six.grown ⟨_, _, _, _, _, _, _, heap_alloc_new w4 _⟩ hgn; obtain ⟨m0, m1, m2, m3, m4, m5, k0, k1, k2, k3, k4, k5, k6, k7, k8, k9, k10, k11⟩ := hSd.open; have hBl := IR.lt hIa) | skip); have hsa := hGa.size; clear hh hIa)
        | (go_at_call_of 97 (Value.agg #[.bool false, .slice A2 N2 c2, .int .i64 p.e]); go_split_ands; refine (HO2.out _ (grown_trans HG3.out (by assumption))).mono ?_; intro e1 wb hh; obtain ⟨bb, rfl, hIb, hgb⟩ := hh.grow; have hGb := grown_trans (show w3.grownBy _ none by assumption) hgb; have Hb := Lib.hid hIb; (try (have Ha := Lib.hid (Ha.out.grown0 (by first | with_reducible exact hgb | with_reducible exact grown_trans (grown_alloc _ _ _) hgb | with_reducible exact grown_trans (drew_grown _) hgb | with_reducible exact grown_trans (grown_trans (grown_alloc _ _ _) (drew_grown _)) hgb)))); (try (have Hd := Lib.hid (Hd.out.grown0 (by first | with_reducible exact hgb | with_reducible exact grown_trans (grown_alloc _ _ _) hgb | with_reducible exact grown_trans (drew_grown _) hgb | with_reducible exact grown_trans (grown_trans (grown_alloc _ _ _) (drew_grown _)) hgb)))); (first | (have hSd : Six wb _ := (by with_reducible exact Six.grown hSd hgb); obtain ⟨m0, m1, m2, m3, m4, m5, k0, k1, k2, k3, k4, k5, k6, k7, k8, k9, k10, k11⟩ := hSd.open; have hBl := IR.lt hIb) | (have hgn : (wa.alloc (.cells #[.pointer none, .int .i64 0, .pointer none, .int .i64 0, .pointer none, .int .i64 0] 123)).grownBy wb none := (by first | with_reducible exact hgb | with_reducible exact grown_trans (drew_grown _) hgb); have hSd : Six wb wa.heap.size := Six.grown ⟨_, _, _, _, _, _, _, heap_alloc_new wa _⟩ hgn; obtain ⟨m0, m1, m2, m3, m4, m5, k0, k1, k2, k3, k4, k5, k6, k7, k8, k9, k10, k11⟩ := hSd.open; have hBl := IR.lt hIb) | skip); have hsb := hGb.size; clear hh hIb)
        | (go_at_call_of 97 (Value.agg #[.bool false, .slice A3 N3 c3, .int .i64 q.e]); go_split_ands; refine (HO3.out _ (grown_trans HG3.out (by assumption))).mono ?_; intro e1 wd hh; obtain ⟨bd, rfl, hId, hgd⟩ := hh.grow; have hGd := grown_trans (show w3.grownBy _ none by assumption) hgd; have Hd := Lib.hid hId; (try (have Ha := Lib.hid (Ha.out.grown0 (by first | with_reducible exact hgd | with_reducible exact grown_trans (grown_alloc _ _ _) hgd | with_reducible exact grown_trans (drew_grown _) hgd | with_reducible exact grown_trans (grown_trans (grown_alloc _ _ _) (drew_grown _)) hgd)))); (try (have Hb := Lib.hid (Hb.out.grown0 (by first | with_reducible exact hgd | with_reducible exact grown_trans (grown_alloc _ _ _) hgd | with_reducible exact grown_trans (drew_grown _) hgd | with_reducible exact grown_trans (grown_trans (grown_alloc _ _ _) (drew_grown _)) hgd)))); (first | (have hSd : Six wd _ := (by with_reducible exact Six.grown hSd hgd); obtain ⟨m0, m1, m2, m3, m4, m5, k0, k1, k2, k3, k4, k5, k6, k7, k8, k9, k10, k11⟩ := hSd.open; have hBl := IR.lt hId) | (have hgn : (wb.alloc (.cells #[.pointer none, .int .i64 0, .pointer none, .int .i64 0, .pointer none, .int .i64 0] 123)).grownBy wd none := (by first | with_reducible exact hgd | with_reducible exact grown_trans (drew_grown _) hgd); have hSd : Six wd wb.heap.size := Six.grown ⟨_, _, _, _, _, _, _, heap_alloc_new wb _⟩ hgn; obtain ⟨m0, m1, m2, m3, m4, m5, k0, k1, k2, k3, k4, k5, k6, k7, k8, k9, k10, k11⟩ := hSd.open; have hBl := IR.lt hId) | skip); have hsd := hGd.size; clear hh hId))
    all_goals
      go_wp2
      go_meet
      first
        | with_reducible exact ⟨_, _, _, _, rfl, row6 (heap_alloc_new wd _), Ha.out.alloc _, Hb.out.alloc _, Hd.out.alloc _, grown_trans hGd (grown_alloc _ _ _)⟩
        | with_reducible exact ⟨_, _, _, _, rfl, six_put hSd Ha.out Hb.out Hd.out hGd (by first | exact hsb | exact hsa | exact HG4.out.size)⟩
  case rest =>
    obtain ⟨B8, ba, bb, bd, rfl, ⟨x0, x1, x2, y0, y1, y2⟩, hIa, hIb, hId, hg5⟩ := hcut
    have HG5 := Lib.hid (grown_trans HG3.out hg5)
    have HTc := Lib.hid (HT.out.ext HG5.out)
    have KR : Hid (∀ W, wc.grownBy W none → (W.cell? ⟨B8, 0, none⟩ = some (.pointer (some ⟨ba, 0, none⟩)) ∧ W.cell? ⟨B8, 1, none⟩ = some (.int .i64 c.e) ∧ W.cell? ⟨B8, 2, none⟩ = some (.pointer (some ⟨bb, 0, none⟩)) ∧ W.cell? ⟨B8, 3, none⟩ = some (.int .i64 p.e) ∧ W.cell? ⟨B8, 4, none⟩ = some (.pointer (some ⟨bd, 0, none⟩)) ∧ W.cell? ⟨B8, 5, none⟩ = some (.int .i64 q.e)) ∧ IR W ba c.z ∧ IR W bb p.z ∧ IR W bd q.z ∧ Tab W ∧ w.grownBy W none) := fun W h => ⟨⟨cell_ext h x0, cell_ext h x1, cell_ext h x2, cell_ext h y0, cell_ext h y1, cell_ext h y2⟩, hIa.grown0 h, hIb.grown0 h, hId.grown0 h, HTc.out.ext h, grown_trans HG5.out h⟩
    have HNc := Lib.hid (HN.out wc ba bb bd hIa hIb hId)
    clear hIa hIb hId hg5 HN
    clear KS HG3 HG4
    go_wp2_with fail
    refine HNc.out.mono ?_
    rintro e1 w6 ⟨rfl, hg6⟩
    obtain ⟨⟨x0, x1, x2, y0, y1, y2⟩, hIa, hIb, hId, hT6, _⟩ := KR.out _ hg6
    have HLc := Lib.hid (HL.out w6 ba bb bd hIa hIb hId hT6)
    have HG6 := Lib.hid hg6
    clear hIa hIb hId hT6 hg6 HL
    go_wp2
    go_loopw [9, 10, 11] (fun v9 v10 v11 wr => v9 = .float .f64 f ∧ v10 = .float .f64 f ∧ v11 = .int .i64 256 ∧ w6 = wr) (fun _ _ _ _ => 0)
    case atStart => exact ⟨rfl, rfl, rfl, rfl⟩
    case round =>
      obtain ⟨rfl, rfl, rfl, rfl⟩ := hrel
      go_wp2_with fail
      refine (HU1.out _).mono ?_
      rintro e1 w7 ⟨rfl, rfl⟩
      go_wp2_with fail
      refine (HU2.out _).mono ?_
      rintro e1 w7 ⟨rfl, rfl⟩
      go_wp2_with fail
      refine HLc.out.mono ?_
      rintro e1 w7 ⟨rfl, hg7⟩
      have HF := Lib.hid (KR.out _ (grown_trans HG6.out hg7)).2.2.2.2.2
      clear hg7
      go_wp2
      go_ret2
      exact ⟨rfl, HF.out⟩
end Go.Proofs.YtjbdadhggejoiaaGreatDoor

namespace Go.Proofs.YtjbdadhggejoiaaGreatDoor
open Go.RowKit
set_option maxRecDepth 100000

def e1 : Ex := ⟨1, 0⟩
def e16 : Ex := ⟨1, 4⟩
def e0 : Ex := ⟨0, 0⟩
def eR : Ex := ⟨((2 ^ 128 : Nat) : Int), -126⟩
def eL : Ex := ⟨((5 * 2 ^ 126 : Nat) : Int), -126⟩
theorem sm_small {x : Ex} (h : x.z.natAbs < 2 ^ 1000) (he : -16777216 ≤ x.e ∧ x.e ≤ 16777216) : x.sm :=
  ⟨Nat.lt_of_lt_of_le h (pw2_le 1000 65536 (by decide)), he⟩
theorem step0 : NStep1 e16 eR e1 eL := {
  root := fun W v hv => exroot_sq v 1 256 (2 ^ 128) 255 4 (-126) W hv (by decide) (by decide +kernel) rfl (by decide) (by decide) (by decide +kernel) (by decide +kernel) (by decide)
  plus := by decide +kernel
  sm1 := sm_small (by decide +kernel) (by decide)
  sm2 := sm_small (by decide +kernel) (by decide) }
theorem step1 : NStep1 e0 e0 eL eL := {
  root := fun W v hv => exroot_zero v e0 128 W hv rfl
  plus := by decide +kernel
  sm1 := sm_small (by decide +kernel) (by decide)
  sm2 := sm_small (by decide +kernel) (by decide) }
theorem flL (W : World) (v : Value) (hv : ER W v eL) : Calls Tryz.prog 129 #[v] W fun en w' => en = .returned (.tuple #[.float .f64 4617315517961601024, .float .f64 4617315517961601024]) ∧ W.grownBy w' none := by
  have h := exfloats_calls v (5 * 2 ^ 126) 76 (5 * 2 ^ 50) (-126) (-50) W hv (by decide +kernel) (by decide +kernel) (by decide) (by decide) (by decide) (by decide) (by decide) (by decide +kernel) (by decide)
  rwa [show fbits (5 * 2 ^ 50) (-50) = 4617315517961601024 by decide +kernel] at h
theorem cmp5 (W : World) (b1 b2 b3 : Nat) (h1 : IR W b1 e1.z) (h2 : IR W b2 e16.z) (h3 : IR W b3 e0.z) (hT : Tab W) : Calls Tryz.prog 101 #[SV b1 b2 b3 e1 e16 e0, .float .f64 4617315517961601024] W fun en w' => en = .returned (.int .i64 0) ∧ W.grownBy w' none := by
  have h := scmp_calls b1 b2 b3 e1 e16 e0 4617315517961601024 W h1 h2 h3 ⟨by decide, by decide⟩ hT (sm_small (by decide +kernel) (by decide)) (sm_small (by decide +kernel) (by decide)) (sm_small (by decide +kernel) (by decide)) (sm_small (by decide +kernel) (by decide +kernel)) (by decide +kernel) (sm_small (by decide +kernel) (by decide +kernel)) (sm_small (by decide +kernel) (by decide +kernel)) (sm_small (by decide +kernel) (by decide +kernel)) (sm_small (by decide +kernel) (by decide +kernel)) (sm_small (by decide +kernel) (by decide +kernel))
  rwa [show cmpS e1 e16 e0 4617315517961601024 = 0 by decide +kernel] at h
theorem cmp5' (W : World) (b1 b2 b3 : Nat) (h1 : IR W b1 e1.z) (h2 : IR W b2 e16.z) (h3 : IR W b3 e0.z) (hT : Tab W) : Calls Tryz.prog 101 #[SV b1 b2 b3 e1 e16 e0, .float .f64 (4617315517961601024 - 1)] W fun en w' => en = .returned (.int .i64 1) ∧ W.grownBy w' none := by
  have h := scmp_calls b1 b2 b3 e1 e16 e0 (4617315517961601024 - 1) W h1 h2 h3 ⟨by decide, by decide⟩ hT (sm_small (by decide +kernel) (by decide)) (sm_small (by decide +kernel) (by decide)) (sm_small (by decide +kernel) (by decide)) (sm_small (by decide +kernel) (by decide +kernel)) (by decide +kernel) (sm_small (by decide +kernel) (by decide +kernel)) (sm_small (by decide +kernel) (by decide +kernel)) (sm_small (by decide +kernel) (by decide +kernel)) (sm_small (by decide +kernel) (by decide +kernel)) (sm_small (by decide +kernel) (by decide +kernel))
  rwa [show cmpS e1 e16 e0 (4617315517961601024 - 1) = 1 by decide +kernel] at h
theorem up5_calls (v1 v2 v3 : Value) (w : World) (h1 : DR w v1 ⟨false, 1, 0⟩) (h2 : DR w v2 ⟨false, 1, 4⟩) (h3 : DR w v3 ⟨false, 0, 0⟩) (hT : Tab w) :
    Calls Tryz.prog 60 #[v1, v2, v3] w fun en w' => en = .returned (.tuple #[.float .f64 4617315517961601024, .int .i64 0]) ∧ w.grownBy w' none :=
  dup_calls v1 v2 v3 ⟨false, 1, 0⟩ ⟨false, 1, 4⟩ ⟨false, 0, 0⟩ 4617315517961601024 w h1 (.inr ⟨by decide, by decide, by decide, by decide⟩) h2 (.inr ⟨by decide, by decide, by decide, by decide⟩) h3 (.inl ⟨rfl, rfl, rfl⟩) hT rfl rfl (by decide) (by decide)
    (fun W b1 b2 b3 h1 h2 h3 => snear_calls b1 b2 b3 e1 e16 e0 eR e0 eL eL 4617315517961601024 W h1 h2 h3 step0 step1 flL)
    (fun W b1 b2 b3 h1 h2 h3 hT => sleast_calls b1 b2 b3 e1 e16 e0 4617315517961601024 W h1 h2 h3 hT (by decide) (by decide) (fun W h1 h2 h3 hT => cmp5' W b1 b2 b3 h1 h2 h3 hT) (fun W h1 h2 h3 hT => cmp5 W b1 b2 b3 h1 h2 h3 hT))
end Go.Proofs.YtjbdadhggejoiaaGreatDoor

namespace Go.Proofs.YtjbdadhggejoiaaGreatDoor
open Go.RowKit
set_option maxRecDepth 100000
attribute [local go_sem] run_frombits run_bits store_f store_c

/-- a ball as a value -/
def BV (x y r : Nat) : Value := .agg #[.complex .f64 x y, .float .f64 r]
/-- no NaN -/
def NF (x : Nat) : Prop := Ieee.double.order x x = some .eq
theorem psame_calls (x y : Nat) (w : World) (hx : NF x) : Calls Tryz.prog 152 #[.float .f64 x, .float .f64 y] w fun e w' => e = .returned (.bool (decide (x = y))) ∧ w = w' := by
  have HN := Lib.hid (fun W => isnan_self x W hx)
  by_cases h : x = y
  · subst h
    rw [decide_eq_true rfl]
    go_enter Tryz.func152, Tryz.ntmps152
    go_wp2
    go_ret
    exact ⟨rfl, rfl⟩
  · have hb : ((x : Int) == (y : Int)) = false := by rw [beq_eq_false_iff_ne]; omega
    rw [decide_eq_false h]
    go_enter Tryz.func152, Tryz.ntmps152
    go_wp2_with fail
    refine (HN.out _).mono ?_
    rintro e3 w1 ⟨rfl, rfl⟩
    go_wp2
    go_ret
    exact ⟨rfl, rfl⟩
theorem bsame_calls (x y : Nat) (w : World) (hx : NF x) : Calls Tryz.prog 126 #[.float .f64 x, .float .f64 y] w fun e w' => e = .returned (.bool (decide (x = y))) ∧ w = w' := by
  have HN := Lib.hid (fun W => isnan_self x W hx)
  by_cases h : x = y
  · subst h
    rw [decide_eq_true rfl]
    go_enter Tryz.func126, Tryz.ntmps126
    go_wp2
    go_ret
    exact ⟨rfl, rfl⟩
  · have hb : ((x : Int) == (y : Int)) = false := by rw [beq_eq_false_iff_ne]; omega
    rw [decide_eq_false h]
    go_enter Tryz.func126, Tryz.ntmps126
    go_wp2_with fail
    refine (HN.out _).mono ?_
    rintro e3 w1 ⟨rfl, rfl⟩
    go_wp2
    go_ret
    exact ⟨rfl, rfl⟩
theorem pSame_calls (x y u v : Nat) (w : World) (hx : NF x) (hy : NF y) : Calls Tryz.prog 125 #[.complex .f64 x y, .complex .f64 u v] w fun e w' => e = .returned (.bool (decide (x = u) && decide (y = v))) ∧ w = w' := by
  have H1 := Lib.hid (fun W => psame_calls x u W hx)
  have H2 := Lib.hid (fun W => psame_calls y v W hy)
  obtain ⟨b1, hb1⟩ : ∃ b, b = decide (x = u) := ⟨_, rfl⟩
  obtain ⟨b2, hb2⟩ : ∃ b, b = decide (y = v) := ⟨_, rfl⟩
  simp only [← hb1] at H1 ⊢
  simp only [← hb2] at H2 ⊢
  clear hb1 hb2
  go_enter Tryz.func125, Tryz.ntmps125
  go_wp2_with fail
  refine (H1.out _).mono ?_
  rintro e3 w1 ⟨rfl, rfl⟩
  cases b1
  · go_wp2
    go_ret
    exact ⟨rfl, rfl⟩
  · go_wp2_with fail
    refine (H2.out _).mono ?_
    rintro e3 w1 ⟨rfl, rfl⟩
    go_wp2
    go_ret
    exact ⟨rfl, rfl⟩
theorem bSame_calls (x y r u v s : Nat) (w : World) (hx : NF x) (hy : NF y) (hr : NF r) : Calls Tryz.prog 93 #[BV x y r, BV u v s] w fun e w' => e = .returned (.bool ((decide (x = u) && decide (y = v)) && decide (r = s))) ∧ w.grownBy w' none := by
  have H1 := Lib.hid (fun W => pSame_calls x y u v W hx hy)
  have H2 := Lib.hid (fun W => bsame_calls r s W hr)
  obtain ⟨b1, hb1⟩ : ∃ b, b = (decide (x = u) && decide (y = v)) := ⟨_, rfl⟩
  obtain ⟨b2, hb2⟩ : ∃ b, b = decide (r = s) := ⟨_, rfl⟩
  simp only [← hb1] at H1 ⊢
  simp only [← hb2] at H2 ⊢
  clear hb1 hb2
  unfold BV
  go_enter Tryz.func93, Tryz.ntmps93
  go_wp2_with fail
  refine (H1.out _).mono ?_
  rintro e3 w1 ⟨rfl, rfl⟩
  cases b1
  · go_wp2
    go_ret
    exact ⟨rfl, grown_trans (grown_alloc _ _ _) (grown_alloc _ _ _)⟩
  · go_wp2_with fail
    refine (H2.out _).mono ?_
    rintro e3 w1 ⟨rfl, rfl⟩
    go_wp2
    go_ret
    exact ⟨rfl, grown_trans (grown_alloc _ _ _) (grown_alloc _ _ _)⟩
theorem nf_inf : NF 9218868437227405312 := rfl
theorem nf_fin {x : Nat} (h : Fin64 x) : NF x := order_self h
theorem plane_calls (w : World) : Calls Tryz.prog 64 #[] w fun e w' => e = .returned (BV 0 0 9218868437227405312) ∧ w.grownBy w' none := by
  have H1 := Lib.hid (fun W => inf_calls W)
  unfold BV
  go_enter Tryz.func64, Tryz.ntmps64
  go_wp2_with fail
  refine (H1.out _).mono ?_
  rintro e3 w1 ⟨rfl, rfl⟩
  have hg := grown_alloc w (.cells #[.complex .f64 0 0, .float .f64 9218868437227405312] 39) none
  go_wp2
  refine bodyPost_ret (v := .agg #[.complex .f64 0 0, .float .f64 9218868437227405312]) ?_ rfl ⟨rfl, hg⟩
  simp [results, Tryz.results64, go_sem, *]
theorem drew_grown' (w : World) : w.grownBy w.drew none := ⟨rfl, rfl, rfl, Nat.le_refl _, fun _ _ _ => rfl⟩
theorem whole_calls (x y r : Nat) (w : World) (hx : NF x) (hy : NF y) (hr : NF r) : Calls Tryz.prog 55 #[BV x y r] w fun e w' => e = .returned (.bool ((decide (x = 0) && decide (y = 0)) && decide (r = 9218868437227405312))) ∧ w.grownBy w' none := by
  have H1 := Lib.hid (fun W => plane_calls W)
  have H2 := Lib.hid (fun W => bSame_calls x y r 0 0 9218868437227405312 W hx hy hr)
  obtain ⟨b1, hb1⟩ : ∃ b, b = ((decide (x = 0) && decide (y = 0)) && decide (r = 9218868437227405312)) := ⟨_, rfl⟩
  simp only [← hb1] at H2 ⊢
  clear hb1
  unfold BV at H1 H2 ⊢
  go_enter Tryz.func55, Tryz.ntmps55
  go_upto_region 1 with fail
  obtain ⟨w2, hw2⟩ : ∃ w2, w2 = w.alloc (.cells #[.complex .f64 x y, .float .f64 r] 39) := ⟨_, rfl⟩
  have r0 : w2.heap[w.heap.size]? = some (.cells #[.complex .f64 x y, .float .f64 r] 39 (0, 0)) := by rw [hw2]; exact heap_at rfl
  have hg2 : w.grownBy w2 none := by rw [hw2]; exact grown_alloc _ _ _
  rw [← hw2]
  obtain ⟨x0, x1⟩ := row2 r0
  have KS : Hid (∀ w' : World, w2.grownBy w' none → w'.cell? ⟨w.heap.size, 0, none⟩ = some (.complex .f64 x y) ∧ w'.cell? ⟨w.heap.size, 1, none⟩ = some (.float .f64 r) ∧ w2.grownBy w' none) := fun w' h => ⟨cell_ext h x0, cell_ext h x1, h⟩
  have HG2 := Lib.hid hg2
  clear hw2 r0 hg2
  go_region_held3 (fun w' : World => w'.cell? ⟨w.heap.size, 0, none⟩ = some (.complex .f64 x y) ∧ w'.cell? ⟨w.heap.size, 1, none⟩ = some (.float .f64 r) ∧ w2.grownBy w' none)
    (first
      | with_reducible exact KS.out _ (drew_grown' _)
      | with_reducible exact KS.out _ hGb
      | with_reducible exact KS.out _ hGa)
    (first
      | (go_at_call 64; go_split_ands; refine (H1.out _).mono ?_; rintro e3 w3 ⟨rfl, hg⟩; have hGa := grown_trans (show w2.grownBy _ none by assumption) hg; clear hg)
      | (go_at_call 93; go_split_ands; refine (H2.out _).mono ?_; rintro e3 w4 ⟨rfl, hg⟩; have hGb := grown_trans (show w2.grownBy _ none by assumption) hg; clear hg))
  all_goals
    have HF := grown_trans HG2.out hGb
    go_wp2
    go_ret
    exact ⟨rfl, HF⟩
theorem finite_calls (x : Nat) (w : World) (hx : Fin64 x) : Calls Tryz.prog 56 #[.float .f64 x] w fun e w' => e = .returned (.bool true) ∧ w = w' := by
  have H1 := Lib.hid (fun W => isinf_calls x W hx)
  have H2 := Lib.hid (fun W => isnan_calls x W hx)
  go_enter Tryz.func56, Tryz.ntmps56
  go_wp2_with fail
  refine (H1.out _).mono ?_
  rintro e3 w1 ⟨rfl, rfl⟩
  go_wp2_with fail
  refine (H2.out _).mono ?_
  rintro e3 w1 ⟨rfl, rfl⟩
  go_wp2
  go_ret
  exact ⟨rfl, rfl⟩
theorem valid_calls (x y r : Nat) (w : World) (hx : Fin64 x) (hy : Fin64 y) (hr : Fin64 r) : Calls Tryz.prog 34 #[BV x y r] w fun e w' => e = .returned (.bool (!fneg r)) ∧ w.grownBy w' none := by
  have hw := fun W => whole_calls x y r W (nf_fin hx) (nf_fin hy) (nf_fin hr)
  have hne : ¬ r = 9218868437227405312 := fun e => by subst e; exact absurd hr.2 (by decide)
  rw [decide_eq_false hne, Bool.and_false] at hw
  have H1 := Lib.hid hw
  have H2 := Lib.hid (fun W => finite_calls x W hx)
  have H3 := Lib.hid (fun W => finite_calls y W hy)
  have H4 := Lib.hid (fun W => finite_calls r W hr)
  have H5 := Lib.hid (fun W => signbit_calls r W hr.1)
  obtain ⟨b1, hb1⟩ : ∃ b, b = fneg r := ⟨_, rfl⟩
  simp only [← hb1] at H5 ⊢
  clear hb1 hw hne
  unfold BV at H1 ⊢
  go_enter Tryz.func34, Tryz.ntmps34
  go_upto_region 1 with fail
  obtain ⟨w2, hw2⟩ : ∃ w2, w2 = w.alloc (.cells #[.complex .f64 x y, .float .f64 r] 39) := ⟨_, rfl⟩
  have r0 : w2.heap[w.heap.size]? = some (.cells #[.complex .f64 x y, .float .f64 r] 39 (0, 0)) := by rw [hw2]; exact heap_at rfl
  have hg2 : w.grownBy w2 none := by rw [hw2]; exact grown_alloc _ _ _
  rw [← hw2]
  obtain ⟨x0, x1⟩ := row2 r0
  have HG2 := Lib.hid hg2
  clear hw2 r0 hg2
  go_wp2_with fail
  refine (H1.out _).mono ?_
  rintro e3 w3 ⟨rfl, hg⟩
  have x0 := cell_ext hg x0
  have x1 := cell_ext hg x1
  have HG3 := Lib.hid (grown_trans HG2.out hg)
  clear hg
  go_wp2_with fail
  refine (H2.out _).mono ?_
  rintro e3 w1 ⟨rfl, rfl⟩
  go_wp2_with fail
  refine (H3.out _).mono ?_
  rintro e3 w1 ⟨rfl, rfl⟩
  go_wp2_with fail
  refine (H4.out _).mono ?_
  rintro e3 w1 ⟨rfl, rfl⟩
  go_wp2_with fail
  refine (H5.out _).mono ?_
  rintro e3 w1 ⟨rfl, rfl⟩
  go_wp2
  go_ret
  exact ⟨rfl, HG3.out⟩
end Go.Proofs.YtjbdadhggejoiaaGreatDoor

namespace Go.Proofs.YtjbdadhggejoiaaGreatDoor
open Go.RowKit
set_option maxRecDepth 100000

/-- what a call leaves that makes one number -/
def DOne (w : World) (d : Dy) (en : Ending) (w' : World) : Prop := ∃ v, en = .returned v ∧ DR w' v d ∧ Below w.heap.size w w'
theorem DOne.store {w w5 : World} {r : Nat} {neg : Bool} {m : Nat} {e : Int} {A : Option Addr} {c : Nat} (h3 : Three w5 r) (hc : (words m).length ≤ c) (hcm : c ≤ maxLen) (hW : Ws w5 w5.heap.size A (words m)) (hb : Below w.heap.size w w5) (hr : w.heap.size ≤ r) :
    DOne w ⟨neg, m, e⟩ (.returned (.agg #[.bool neg, .slice A (words m).length c, .int .i64 e])) (((w5.setCell ⟨r, 0, none⟩ (.bool neg)).setCell ⟨r, 1, none⟩ (.slice A (words m).length c)).setCell ⟨r, 2, none⟩ (.int .i64 e)) :=
  ⟨_, rfl, ⟨A, c, rfl, hc, hcm, by simpa using hW.set3 h3 neg A (words m).length c e⟩, ((hb.setCell (by exact hr) _).setCell (by exact hr) _).setCell (by exact hr) _⟩
/-- a number at the end of a call that copies it into its result -/
theorem DOne.copy {w w2 w3 : World} {r : Nat} {t : TypeId} {A : Option Addr} {c : Nat} {d : Dy} (h2 : Three w2 r) (hb2 : Below w.heap.size w w2) (hr : w.heap.size ≤ r) (hw : w.heap.size ≤ w2.heap.size) (hb : Below w2.heap.size w2 w3) (hc : (words d.m).length ≤ c) (hcm : c ≤ maxLen) (hW : Ws w3 w3.heap.size A (words d.m)) :
    DOne w d (.returned (.agg #[.bool d.neg, .slice A (words d.m).length c, .int .i64 d.e])) ((((w3.setCell ⟨r, 0, none⟩ (.bool d.neg)).setCell ⟨r, 1, none⟩ (.slice A (words d.m).length c)).setCell ⟨r, 2, none⟩ (.int .i64 d.e)).alloc (.cells #[.bool d.neg, .slice A (words d.m).length c, .int .i64 d.e] t)) := by
  have hg := grown_of_below hb none
  have hT3 : Three w3 r := h2.grown hg (by simp)
  have hs3 := hg.size
  obtain ⟨v, h1, h2, h3⟩ := DOne.store (neg := d.neg) (m := d.m) (e := d.e) hT3 hc hcm hW (hb2.trans (hb.mono hw)) hr
  exact ⟨v, h1, NR.grown0 h2 (grown_alloc _ _ _), h3.alloc (by simp; omega) _⟩
set_option maxHeartbeats 1000000 in
theorem bnum_calls (x : Nat) (w : World) (h : Fin64 x) (hT : Tab w) :
    Calls Tryz.prog 58 #[.float .f64 x] w fun e w' => DOne w (ofF x) e w' := by
  have H1 := Lib.hid (dof_calls x (w.alloc (.cells #[.bool false, .slice none 0 0, .int .i64 0] 74)) h (hT.ext (grown_alloc _ _ _)))
  obtain ⟨d, hd⟩ : ∃ d, d = ofF x := ⟨_, rfl⟩
  simp only [← hd] at H1 ⊢
  clear hd
  go_enter Tryz.func58, Tryz.ntmps58
  go_wp2_with fail
  refine H1.out.mono ?_
  rintro e3 w3 ⟨v, rfl, ⟨A, c, rfl, hc, hm, hW⟩, hb⟩
  unfold NV
  have hD := DOne.copy (w := w) (t := 74) (three_at (w := w) rfl) ((Below.refl _ w).alloc (Nat.le_refl _) _) (Nat.le_refl _) (by simp) hb hc hm hW
  obtain ⟨p1, p2, p3, p4, p5, x0, x1, x2, f0, f1, f2⟩ := (show Three w3 w.heap.size from (three_at (w := w) rfl).grown (grown_of_below hb none) (by simp)).open
  have hs3 := (grown_of_below hb none).size
  simp at hs3
  have hlt : w.heap.size < w3.heap.size := by omega
  obtain ⟨L, hL⟩ : ∃ L, L = (words d.m).length := ⟨_, rfl⟩
  rw [← hL] at hD ⊢
  have HD := Lib.hid hD
  clear hL hc hm hW hb hD
  go_wp2
  refine bodyPost_ret (v := .agg #[.bool d.neg, .slice A L c, .int .i64 d.e]) ?_ rfl HD.out
  simp [results, Tryz.results58, go_sem, *]
set_option maxHeartbeats 1000000 in
theorem rexact_calls (x : Nat) (w : World) (h : Fin64 x) (hT : Tab w) :
    Calls Tryz.prog 48 #[.float .f64 x] w fun e w' => DOne w (ofF x) e w' := by
  have H1 := Lib.hid (dof_calls x (w.alloc (.cells #[.bool false, .slice none 0 0, .int .i64 0] 74)) h (hT.ext (grown_alloc _ _ _)))
  obtain ⟨d, hd⟩ : ∃ d, d = ofF x := ⟨_, rfl⟩
  simp only [← hd] at H1 ⊢
  clear hd
  go_enter Tryz.func48, Tryz.ntmps48
  go_wp2_with fail
  refine H1.out.mono ?_
  rintro e3 w3 ⟨v, rfl, ⟨A, c, rfl, hc, hm, hW⟩, hb⟩
  unfold NV
  have hD := DOne.copy (w := w) (t := 74) (three_at (w := w) rfl) ((Below.refl _ w).alloc (Nat.le_refl _) _) (Nat.le_refl _) (by simp) hb hc hm hW
  obtain ⟨p1, p2, p3, p4, p5, x0, x1, x2, f0, f1, f2⟩ := (show Three w3 w.heap.size from (three_at (w := w) rfl).grown (grown_of_below hb none) (by simp)).open
  have hs3 := (grown_of_below hb none).size
  simp at hs3
  have hlt : w.heap.size < w3.heap.size := by omega
  obtain ⟨L, hL⟩ : ∃ L, L = (words d.m).length := ⟨_, rfl⟩
  rw [← hL] at hD ⊢
  have HD := Lib.hid hD
  clear hL hc hm hW hb hD
  go_wp2
  refine bodyPost_ret (v := .agg #[.bool d.neg, .slice A L c, .int .i64 d.e]) ?_ rfl HD.out
  simp [results, Tryz.results48, go_sem, *]
set_option maxHeartbeats 1000000 in
theorem rnum_calls (x : Nat) (w : World) (h : Fin64 x) (hT : Tab w) :
    Calls Tryz.prog 67 #[.float .f64 x] w fun e w' => DOne w (ofF x) e w' := by
  have H1 := Lib.hid (dof_calls x (w.alloc (.cells #[.bool false, .slice none 0 0, .int .i64 0] 74)) h (hT.ext (grown_alloc _ _ _)))
  obtain ⟨d, hd⟩ : ∃ d, d = ofF x := ⟨_, rfl⟩
  simp only [← hd] at H1 ⊢
  clear hd
  go_enter Tryz.func67, Tryz.ntmps67
  go_wp2_with fail
  refine H1.out.mono ?_
  rintro e3 w3 ⟨v, rfl, ⟨A, c, rfl, hc, hm, hW⟩, hb⟩
  unfold NV
  have hD := DOne.copy (w := w) (t := 74) (three_at (w := w) rfl) ((Below.refl _ w).alloc (Nat.le_refl _) _) (Nat.le_refl _) (by simp) hb hc hm hW
  obtain ⟨p1, p2, p3, p4, p5, x0, x1, x2, f0, f1, f2⟩ := (show Three w3 w.heap.size from (three_at (w := w) rfl).grown (grown_of_below hb none) (by simp)).open
  have hs3 := (grown_of_below hb none).size
  simp at hs3
  have hlt : w.heap.size < w3.heap.size := by omega
  obtain ⟨L, hL⟩ : ∃ L, L = (words d.m).length := ⟨_, rfl⟩
  rw [← hL] at hD ⊢
  have HD := Lib.hid hD
  clear hL hc hm hW hb hD
  go_wp2
  refine bodyPost_ret (v := .agg #[.bool d.neg, .slice A L c, .int .i64 d.e]) ?_ rfl HD.out
  simp [results, Tryz.results67, go_sem, *]
set_option maxHeartbeats 1000000 in
theorem badd_calls (v v2 : Value) (a b : Dy) (w : World) (hv : DR w v a) (ho : a.ok) (hv2 : DR w v2 b) (ho2 : b.ok) (hf : notFar a b) (hr : (dadd a b).ok) (hT : Tab w) :
    Calls Tryz.prog 94 #[v, v2] w fun e w' => DOne w (dadd a b) e w' := by
  obtain ⟨A1, c1, rfl, k1, m1, hW1⟩ := hv
  obtain ⟨A2, c2, rfl, k2, m2, hW2⟩ := hv2
  have hN1 : NR w (NV a.neg A1 (words a.m).length c1 a.e) a.neg a.m a.e := ⟨A1, c1, rfl, k1, m1, hW1⟩
  have hN2 : NR w (NV b.neg A2 (words b.m).length c2 b.e) b.neg b.m b.e := ⟨A2, c2, rfl, k2, m2, hW2⟩
  have h1 := fun (W : World) (hg : w.grownBy W none) => dadd_calls _ _ a b W (hN1.grown0 hg) ho (hN2.grown0 hg) ho2 hf hr (hT.ext hg)
  unfold NV at h1 ⊢
  obtain ⟨d, hd⟩ : ∃ d, d = dadd a b := ⟨_, rfl⟩
  simp only [← hd] at h1 ⊢
  obtain ⟨L1, hL1⟩ : ∃ L, L = (words a.m).length := ⟨_, rfl⟩
  obtain ⟨L2, hL2⟩ : ∃ L, L = (words b.m).length := ⟨_, rfl⟩
  simp only [← hL1, ← hL2] at h1 ⊢
  have H1 := Lib.hid h1
  clear hd h1 hL1 hL2 k1 k2 hW1 hW2 hN1 hN2
  go_enter Tryz.func94, Tryz.ntmps94
  go_wp2_with fail
  refine (H1.out _ (grown_trans (grown_trans (grown_alloc _ _ _) (grown_alloc _ _ _)) (grown_alloc _ _ _))).mono ?_
  rintro e3 w3 ⟨v, rfl, ⟨A, c, rfl, hc, hm, hW⟩, hb⟩
  unfold NV
  have hT2 : Three (((w.alloc (.cells #[.bool a.neg, .slice A1 L1 c1, .int .i64 a.e] 74)).alloc (.cells #[.bool b.neg, .slice A2 L2 c2, .int .i64 b.e] 74)).alloc (.cells #[.bool false, .slice none 0 0, .int .i64 0] 74)) (w.heap.size + 1 + 1) := three_at (by simp)
  have hD := DOne.copy (w := w) (t := 74) hT2 ((((Below.refl _ w).alloc (Nat.le_refl _) _).alloc (by simp) _).alloc (by simp; omega) _) (by omega) (by simp; omega) hb hc hm hW
  obtain ⟨p1, p2, p3, p4, p5, x0, x1, x2, f0, f1, f2⟩ := (hT2.grown (grown_of_below hb none) (by simp)).open
  have hs3 := (grown_of_below hb none).size
  simp at hs3
  have hlt : w.heap.size + 1 + 1 < w3.heap.size := by omega
  obtain ⟨L, hL⟩ : ∃ L, L = (words d.m).length := ⟨_, rfl⟩
  rw [← hL] at hD ⊢
  have HD := Lib.hid hD
  clear hL hc hm hW hb hD hT2
  go_wp2
  refine bodyPost_ret (v := .agg #[.bool d.neg, .slice A L c, .int .i64 d.e]) ?_ rfl HD.out
  simp [results, Tryz.results94, go_sem, *]
set_option maxHeartbeats 1000000 in
theorem bsub_calls (v v2 : Value) (a b : Dy) (w : World) (hv : DR w v a) (ho : a.ok) (hv2 : DR w v2 b) (ho2 : b.ok) (hf : notFar a (dneg b)) (hr : (dsub a b).ok) (hT : Tab w) :
    Calls Tryz.prog 96 #[v, v2] w fun e w' => DOne w (dsub a b) e w' := by
  obtain ⟨A1, c1, rfl, k1, m1, hW1⟩ := hv
  obtain ⟨A2, c2, rfl, k2, m2, hW2⟩ := hv2
  have hN1 : NR w (NV a.neg A1 (words a.m).length c1 a.e) a.neg a.m a.e := ⟨A1, c1, rfl, k1, m1, hW1⟩
  have hN2 : NR w (NV b.neg A2 (words b.m).length c2 b.e) b.neg b.m b.e := ⟨A2, c2, rfl, k2, m2, hW2⟩
  have h1 := fun (W : World) (hg : w.grownBy W none) => dsub_calls _ _ a b W (hN1.grown0 hg) ho (hN2.grown0 hg) ho2 hf hr (hT.ext hg)
  unfold NV at h1 ⊢
  obtain ⟨d, hd⟩ : ∃ d, d = dsub a b := ⟨_, rfl⟩
  simp only [← hd] at h1 ⊢
  obtain ⟨L1, hL1⟩ : ∃ L, L = (words a.m).length := ⟨_, rfl⟩
  obtain ⟨L2, hL2⟩ : ∃ L, L = (words b.m).length := ⟨_, rfl⟩
  simp only [← hL1, ← hL2] at h1 ⊢
  have H1 := Lib.hid h1
  clear hd h1 hL1 hL2 k1 k2 hW1 hW2 hN1 hN2
  go_enter Tryz.func96, Tryz.ntmps96
  go_wp2_with fail
  refine (H1.out _ (grown_trans (grown_trans (grown_alloc _ _ _) (grown_alloc _ _ _)) (grown_alloc _ _ _))).mono ?_
  rintro e3 w3 ⟨v, rfl, ⟨A, c, rfl, hc, hm, hW⟩, hb⟩
  unfold NV
  have hT2 : Three (((w.alloc (.cells #[.bool a.neg, .slice A1 L1 c1, .int .i64 a.e] 74)).alloc (.cells #[.bool b.neg, .slice A2 L2 c2, .int .i64 b.e] 74)).alloc (.cells #[.bool false, .slice none 0 0, .int .i64 0] 74)) (w.heap.size + 1 + 1) := three_at (by simp)
  have hD := DOne.copy (w := w) (t := 74) hT2 ((((Below.refl _ w).alloc (Nat.le_refl _) _).alloc (by simp) _).alloc (by simp; omega) _) (by omega) (by simp; omega) hb hc hm hW
  obtain ⟨p1, p2, p3, p4, p5, x0, x1, x2, f0, f1, f2⟩ := (hT2.grown (grown_of_below hb none) (by simp)).open
  have hs3 := (grown_of_below hb none).size
  simp at hs3
  have hlt : w.heap.size + 1 + 1 < w3.heap.size := by omega
  obtain ⟨L, hL⟩ : ∃ L, L = (words d.m).length := ⟨_, rfl⟩
  rw [← hL] at hD ⊢
  have HD := Lib.hid hD
  clear hL hc hm hW hb hD hT2
  go_wp2
  refine bodyPost_ret (v := .agg #[.bool d.neg, .slice A L c, .int .i64 d.e]) ?_ rfl HD.out
  simp [results, Tryz.results96, go_sem, *]
/-- the square -/
def dsqr (a : Dy) : Dy := dnorm (a.z * a.z) (a.e + a.e)
set_option maxHeartbeats 1000000 in
theorem bsqr_calls (v : Value) (a : Dy) (w : World) (hv : DR w v a) (ho : a.ok) (hr : (dsqr a).ok) (hT : Tab w) :
    Calls Tryz.prog 95 #[v] w fun e w' => DOne w (dsqr a) e w' := by
  obtain ⟨A1, c1, rfl, k1, m1, hW1⟩ := hv
  have hN1 : NR w (NV a.neg A1 (words a.m).length c1 a.e) a.neg a.m a.e := ⟨A1, c1, rfl, k1, m1, hW1⟩
  have h1 := fun (W : World) (hg : w.grownBy W none) => dmul_calls _ _ a a W (hN1.grown0 hg) ho (hN1.grown0 hg) ho hr (hT.ext hg)
  unfold NV at h1 ⊢
  have e1 : dnorm (a.z * a.z) (a.e + a.e) = dsqr a := rfl
  simp only [e1] at h1
  obtain ⟨d, hd⟩ : ∃ d, d = dsqr a := ⟨_, rfl⟩
  simp only [← hd] at h1 ⊢
  obtain ⟨L1, hL1⟩ : ∃ L, L = (words a.m).length := ⟨_, rfl⟩
  simp only [← hL1] at h1 ⊢
  have H1 := Lib.hid h1
  clear hd h1 hL1 k1 hW1 hN1 e1
  go_enter Tryz.func95, Tryz.ntmps95
  go_wp2_with fail
  refine (H1.out _ (grown_trans (grown_alloc _ _ _) (grown_alloc _ _ _))).mono ?_
  rintro e3 w3 ⟨v, rfl, ⟨A, c, rfl, hc, hm, hW⟩, hb⟩
  unfold NV
  have hT2 : Three ((w.alloc (.cells #[.bool a.neg, .slice A1 L1 c1, .int .i64 a.e] 74)).alloc (.cells #[.bool false, .slice none 0 0, .int .i64 0] 74)) (w.heap.size + 1) := three_at (by simp)
  have hD := DOne.copy (w := w) (t := 74) hT2 (((Below.refl _ w).alloc (Nat.le_refl _) _).alloc (by simp) _) (by omega) (by simp; omega) hb hc hm hW
  obtain ⟨p1, p2, p3, p4, p5, x0, x1, x2, f0, f1, f2⟩ := (hT2.grown (grown_of_below hb none) (by simp)).open
  have hs3 := (grown_of_below hb none).size
  simp at hs3
  have hlt : w.heap.size + 1 < w3.heap.size := by omega
  obtain ⟨L, hL⟩ : ∃ L, L = (words d.m).length := ⟨_, rfl⟩
  rw [← hL] at hD ⊢
  have HD := Lib.hid hD
  clear hL hc hm hW hb hD hT2
  go_wp2
  refine bodyPost_ret (v := .agg #[.bool d.neg, .slice A L c, .int .i64 d.e]) ?_ rfl HD.out
  simp [results, Tryz.results95, go_sem, *]
end Go.Proofs.YtjbdadhggejoiaaGreatDoor

namespace Go.Proofs.YtjbdadhggejoiaaGreatDoor
open Go.RowKit
set_option maxRecDepth 100000

theorem grown_refl9 (w : World) : w.grownBy w none := ⟨rfl, rfl, rfl, Nat.le_refl _, fun _ _ _ => rfl⟩
theorem DR.grown0 {w w' : World} {v : Value} {d : Dy} (h : DR w v d) (hg : w.grownBy w' none) : DR w' v d := NR.grown0 h hg
/-- the square of how far two values are apart -/
def apartD (x y u v : Nat) : Dy := dadd (dsqr (dsub (ofF x) (ofF u))) (dsqr (dsub (ofF y) (ofF v)))
/-- that all that it takes may be -/
structure ApartOk (x y u v : Nat) : Prop where
  fx : Fin64 x
  fy : Fin64 y
  fu : Fin64 u
  fv : Fin64 v
  f1 : notFar (ofF x) (dneg (ofF u))
  k1 : (dsub (ofF x) (ofF u)).ok
  f2 : notFar (ofF y) (dneg (ofF v))
  k2 : (dsub (ofF y) (ofF v)).ok
  s1 : (dsqr (dsub (ofF x) (ofF u))).ok
  s2 : (dsqr (dsub (ofF y) (ofF v))).ok
  f : notFar (dsqr (dsub (ofF x) (ofF u))) (dsqr (dsub (ofF y) (ofF v)))
  k : (apartD x y u v).ok
theorem DOne.of_set {w w5 : World} {r : Nat} {v : Value} {d : Dy} (h3 : Three w5 r) (hv : DR w5 v d) (hb : Below w.heap.size w w5) (hr : w.heap.size ≤ r) :
    ∃ A c, v = .agg #[.bool d.neg, .slice A (words d.m).length c, .int .i64 d.e] ∧ DOne w d (.returned v) (((w5.setCell ⟨r, 0, none⟩ (.bool d.neg)).setCell ⟨r, 1, none⟩ (.slice A (words d.m).length c)).setCell ⟨r, 2, none⟩ (.int .i64 d.e)) := by
  obtain ⟨A, c, rfl, hc, hcm, hW⟩ := hv
  exact ⟨A, c, rfl, DOne.store (neg := d.neg) (m := d.m) (e := d.e) h3 hc hcm hW hb hr⟩
set_option maxHeartbeats 2000000 in
theorem bapart_calls (x y u v : Nat) (w : World) (h : ApartOk x y u v) (hT : Tab w) :
    Calls Tryz.prog 59 #[.complex .f64 x y, .complex .f64 u v] w fun e w' => DOne w (apartD x y u v) e w' := by
  obtain ⟨fx, fy, fu, fv, f1, k1, f2, k2, s1, s2, f, k⟩ := h
  have ox := ofF_ok fx
  have oy := ofF_ok fy
  have ou := ofF_ok fu
  have ov := ofF_ok fv
  have HX := Lib.hid (fun W (h : Tab W) => bnum_calls x W fx h)
  have HY := Lib.hid (fun W (h : Tab W) => bnum_calls y W fy h)
  have HU := Lib.hid (fun W (h : Tab W) => bnum_calls u W fu h)
  have HV := Lib.hid (fun W (h : Tab W) => bnum_calls v W fv h)
  have e0 : apartD x y u v = dadd (dsqr (dsub (ofF x) (ofF u))) (dsqr (dsub (ofF y) (ofF v))) := rfl
  obtain ⟨a, ha⟩ : ∃ a, a = ofF x := ⟨_, rfl⟩
  obtain ⟨b, hb⟩ : ∃ a, a = ofF y := ⟨_, rfl⟩
  obtain ⟨c, hc⟩ : ∃ a, a = ofF u := ⟨_, rfl⟩
  obtain ⟨d, hd⟩ : ∃ a, a = ofF v := ⟨_, rfl⟩
  simp only [← ha, ← hb, ← hc, ← hd] at *
  clear ha hb hc hd
  have HD1 := Lib.hid (fun W (v1 v2 : Value) (h1 : DR W v1 a) (h2 : DR W v2 c) (h : Tab W) => bsub_calls v1 v2 a c W h1 ox h2 ou f1 k1 h)
  have HD2 := Lib.hid (fun W (v1 v2 : Value) (h1 : DR W v1 b) (h2 : DR W v2 d) (h : Tab W) => bsub_calls v1 v2 b d W h1 oy h2 ov f2 k2 h)
  have HS1 := Lib.hid (fun W (v1 : Value) (h1 : DR W v1 (dsub a c)) (h : Tab W) => bsqr_calls v1 (dsub a c) W h1 k1 s1 h)
  have HS2 := Lib.hid (fun W (v1 : Value) (h1 : DR W v1 (dsub b d)) (h : Tab W) => bsqr_calls v1 (dsub b d) W h1 k2 s2 h)
  have hA := (fun W (v1 v2 : Value) (h1 : DR W v1 (dsqr (dsub a c))) (h2 : DR W v2 (dsqr (dsub b d))) (h : Tab W) => badd_calls v1 v2 _ _ W h1 s1 h2 s2 f (by rw [← e0]; exact k) h)
  rw [← e0] at hA
  have HA := Lib.hid hA
  obtain ⟨R, hR⟩ : ∃ R, R = apartD x y u v := ⟨_, rfl⟩
  rw [← hR] at HA ⊢
  clear fx fy fu fv f1 k1 f2 k2 s1 s2 f k ox oy ou ov e0 hA hR
  go_enter Tryz.func59, Tryz.ntmps59
  have HT0 := Lib.hid (hT.ext (grown_alloc w (.cells #[.bool false, .slice none 0 0, .int .i64 0] 74) none))
  obtain ⟨w0, hw0⟩ : ∃ w0, w0 = w.alloc (.cells #[.bool false, .slice none 0 0, .int .i64 0] 74) := ⟨_, rfl⟩
  have T0 : Hid (Three w0 w.heap.size) := by rw [hw0]; exact three_at rfl
  have B0 : Hid (Below w.heap.size w w0) := by rw [hw0]; exact (Below.refl _ w).alloc (Nat.le_refl _) _
  have hs0 : w.heap.size < w0.heap.size := by rw [hw0]; simp
  have HT0 : Hid (Tab w0) := by rw [hw0]; exact HT0.out
  go_upto_region 1 with fail
  rw [← hw0]
  have HG0 := Lib.hid (grown_refl9 w0)
  clear hw0 hT
  go_wp2_with fail
  refine (HX.out _ HT0.out).mono ?_
  rintro e1 w1 ⟨va, rfl, hda, hba⟩
  have hg := grown_of_below hba none
  have Ka := Lib.hid hda
  have HT1 := Lib.hid (HT0.out.ext hg)
  have HG1 := Lib.hid (grown_trans HG0.out hg)
  clear hg hba hda
  go_wp2_with fail
  refine (HU.out _ HT1.out).mono ?_
  rintro e1 w2 ⟨vc, rfl, hdc, hbc⟩
  have hg := grown_of_below hbc none
  have Ka := Lib.hid (Ka.out.grown0 hg)
  have Kc := Lib.hid hdc
  have HT2 := Lib.hid (HT1.out.ext hg)
  have HG2 := Lib.hid (grown_trans HG1.out hg)
  clear hg hbc hdc
  go_wp2_with fail
  refine (HD1.out _ _ _ Ka.out Kc.out HT2.out).mono ?_
  rintro e1 w3 ⟨vp, rfl, hdp, hbp⟩
  have hg := grown_of_below hbp none
  have Kp := Lib.hid hdp
  have HT3 := Lib.hid (HT2.out.ext hg)
  have HG3 := Lib.hid (grown_trans HG2.out hg)
  clear hg hbp hdp
  go_wp2_with fail
  refine (HS1.out _ _ Kp.out HT3.out).mono ?_
  rintro e1 w4 ⟨vq, rfl, hdq, hbq⟩
  have hg := grown_of_below hbq none
  have Kq := Lib.hid hdq
  have HT4 := Lib.hid (HT3.out.ext hg)
  have HG4 := Lib.hid (grown_trans HG3.out hg)
  clear hg hbq hdq
  go_wp2_with fail
  refine (HY.out _ HT4.out).mono ?_
  rintro e1 w5 ⟨vb, rfl, hdb, hbb⟩
  have hg := grown_of_below hbb none
  have Kq := Lib.hid (Kq.out.grown0 hg)
  have Kb := Lib.hid hdb
  have HT5 := Lib.hid (HT4.out.ext hg)
  have HG5 := Lib.hid (grown_trans HG4.out hg)
  clear hg hbb hdb
  go_wp2_with fail
  refine (HV.out _ HT5.out).mono ?_
  rintro e1 w6 ⟨vd, rfl, hdd, hbd⟩
  have hg := grown_of_below hbd none
  have Kq := Lib.hid (Kq.out.grown0 hg)
  have Kb := Lib.hid (Kb.out.grown0 hg)
  have Kd := Lib.hid hdd
  have HT6 := Lib.hid (HT5.out.ext hg)
  have HG6 := Lib.hid (grown_trans HG5.out hg)
  clear hg hbd hdd
  go_wp2_with fail
  refine (HD2.out _ _ _ Kb.out Kd.out HT6.out).mono ?_
  rintro e1 w7 ⟨vr, rfl, hdr, hbr⟩
  have hg := grown_of_below hbr none
  have Kq := Lib.hid (Kq.out.grown0 hg)
  have Kr := Lib.hid hdr
  have HT7 := Lib.hid (HT6.out.ext hg)
  have HG7 := Lib.hid (grown_trans HG6.out hg)
  clear hg hbr hdr
  go_wp2_with fail
  refine (HS2.out _ _ Kr.out HT7.out).mono ?_
  rintro e1 w8 ⟨vs, rfl, hds, hbs⟩
  have hg := grown_of_below hbs none
  have Kq := Lib.hid (Kq.out.grown0 hg)
  have Ks := Lib.hid hds
  have HT8 := Lib.hid (HT7.out.ext hg)
  have HG8 := Lib.hid (grown_trans HG7.out hg)
  clear hg hbs hds
  go_wp2_with fail
  refine (HA.out _ _ _ Kq.out Ks.out HT8.out).mono ?_
  rintro e1 w9 ⟨vz, rfl, hdz, hbz⟩
  have hg := grown_of_below hbz none
  have Kz := Lib.hid hdz
  have HT9 := Lib.hid (HT8.out.ext hg)
  have HG9 := Lib.hid (grown_trans HG8.out hg)
  clear hg hbz hdz
  have hs9 := HG9.out.size
  have hT9 := T0.out.grown HG9.out (by simp)
  obtain ⟨A, cc, rfl, hD⟩ := DOne.of_set (w := w) hT9 Kz.out (B0.out.trans ((below_of_grown0 HG9.out).mono (by omega))) (Nat.le_refl _)
  obtain ⟨p1, p2, p3, p4, p5, x0, x1, x2, g0, g1, g2⟩ := hT9.open
  obtain ⟨N, hN⟩ : ∃ L, L = (words R.m).length := ⟨_, rfl⟩
  rw [← hN] at hD ⊢
  have HD := Lib.hid hD
  clear hN hD hT9
  go_wp2
  refine bodyPost_ret (v := .agg #[.bool R.neg, .slice A N cc, .int .i64 R.e]) ?_ rfl HD.out
  simp [results, Tryz.results59, go_sem, *]
end Go.Proofs.YtjbdadhggejoiaaGreatDoor
