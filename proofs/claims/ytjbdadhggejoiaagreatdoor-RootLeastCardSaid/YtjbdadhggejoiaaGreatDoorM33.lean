/- cuspref02: magnitude (of numbers above 0).
   cuspref02: Order (of numbers above 0).
   cuspref02: numbers above 0 by what they are worth.
   The root that 'sqrtF' rounds to the nearest, and its neighbours: plain numbers.
   The root of a float above 0: that there is one, and where its neighbours' means lie.
   The law RootLeast: a float above 0.
   The law RootLeast: whatever the float. -/
import Derived.Test.YtjbdadhggejoiaaGreatDoorM32
import Derived.Test.YtjbdadhggejoiaaGreatDoorM07
import Derived.Test.YtjbdadhggejoiaaGreatDoorM19
import Derived.Test.YtjbdadhggejoiaaGreatDoorM27
import Derived.Test.YtjbdadhggejoiaaGreatDoorM31
import Derived.Test.YtjbdadhggejoiaaGreatDoorM24

namespace Go.Proofs.YtjbdadhggejoiaaGreatDoor
open Go.RowKit
set_option maxRecDepth 100000

/-- how two numbers above 0 compare, as 'magnitude' tells it -/
def mgn (m m2 : Nat) (e e2 : Int) (X Y : Nat) : Int := if (Go.bitLen m : Int) + e ≠ (Go.bitLen m2 : Int) + e2 then ((Go.bitLen m : Int) + e) - ((Go.bitLen m2 : Int) + e2) else cmpI X Y
theorem grown_drewN (w : World) (q : Nat) : w.grownBy (w.drewN q) none := grown_of_below (below_drewN w.heap.size w q) none
theorem grown_of_drewN {w w' : World} {q : Nat} (h : w' = w.drewN q) : w.grownBy w' none := by rw [h]; exact grown_drewN _ _
set_option maxHeartbeats 4000000 in
theorem cmagnitude_calls (v v2 : Value) (m m2 k k2 : Nat) (e e2 E : Int) (w : World) (hv : NR w v false m e) (hv2 : NR w v2 false m2 e2) (hm : m ≠ 0) (hm2 : m2 ≠ 0) (hE : min e e2 = E) (hk : e - E = k) (hk2 : e2 - E = k2) (hl : (words (m * 2 ^ k)).length ≤ 1048576) (hl2 : (words (m2 * 2 ^ k2)).length ≤ 1048576) (he : -8388608 ≤ e ∧ e ≤ 8388608) (he2 : -8388608 ≤ e2 ∧ e2 ≤ 8388608) :
    Calls Tryz.prog 32 #[v, v2] w fun en w' => en = .returned (.int .i64 (mgn m m2 e e2 (m * 2 ^ k) (m2 * 2 ^ k2))) ∧ w.grownBy w' none := by
  have hmX : m ≤ m * 2 ^ k := Nat.le_mul_of_pos_right _ (Nat.two_pow_pos _)
  have hmY : m2 ≤ m2 * 2 ^ k2 := Nat.le_mul_of_pos_right _ (Nat.two_pow_pos _)
  have hlm := words_len_le hmX
  have hlm2 := words_len_le hmY
  have hb1 : Go.bitLen m ≤ 32 * 1048576 := bl_len (by omega)
  have hb2 : Go.bitLen m2 ≤ 32 * 1048576 := bl_len (by omega)
  have hs1 := fun W (hg : w.grownBy W none) => chigh_calls v m e W (NR.grown0 hv hg) hm (by omega) (by omega)
  have hs2 := fun W (hg : w.grownBy W none) => chigh_calls v2 m2 e2 W (NR.grown0 hv2 hg) hm2 (by omega) (by omega)
  obtain ⟨A, c, rfl, hc, hcm, hW⟩ := hv
  obtain ⟨A2, c2, rfl, hc2, hcm2, hW2⟩ := hv2
  have hz := lenD m
  have hz2 := lenD m2
  rw [decide_eq_false hm] at hz
  rw [decide_eq_false hm2] at hz2
  have hmg : mgn m m2 e e2 (m * 2 ^ k) (m2 * 2 ^ k2) = if (Go.bitLen m : Int) + e ≠ (Go.bitLen m2 : Int) + e2 then ((Go.bitLen m : Int) + e) - ((Go.bitLen m2 : Int) + e2) else cmpI (m * 2 ^ k) (m2 * 2 ^ k2) := rfl
  obtain ⟨G, hG⟩ : ∃ G, G = mgn m m2 e e2 (m * 2 ^ k) (m2 * 2 ^ k2) := ⟨_, rfl⟩
  rw [← hG] at hmg ⊢
  obtain ⟨h1, hh1⟩ : ∃ h : Int, h = (Go.bitLen m : Int) + e := ⟨_, rfl⟩
  obtain ⟨h2, hh2⟩ : ∃ h : Int, h = (Go.bitLen m2 : Int) + e2 := ⟨_, rfl⟩
  have hwr : IntKind.i64.wrap (h1 - h2) = h1 - h2 := wrap_in (by omega) (by omega)
  simp only [← hh1, ← hh2] at hmg hs1 hs2
  have hu1 := fun W (h : Ws W W.heap.size A (words m)) => cup_calls A c m k W hc (by omega) (by omega) h
  have hu2 := fun W (h : Ws W W.heap.size A2 (words m2)) => cup_calls A2 c2 m2 k2 W hc2 (by omega) (by omega) h
  obtain ⟨X, hX⟩ : ∃ X, X = m * 2 ^ k := ⟨_, rfl⟩
  obtain ⟨Y, hY⟩ : ∃ Y, Y = m2 * 2 ^ k2 := ⟨_, rfl⟩
  rw [← hX] at hu1 hl hmg
  rw [← hY] at hu2 hl2 hmg
  have ho := fun A3 A4 c3 c4 W h1 h2 => corder_calls A3 A4 c3 c4 W.heap.size W.heap.size X Y W (by omega) (by omega) h1 h2
  have hk3 : IntKind.i64.wrap (e - E) = (k : Int) := by rw [hk]; exact wrap_in (by omega) (by omega)
  have hk4 : IntKind.i64.wrap (e2 - E) = (k2 : Int) := by rw [hk2]; exact wrap_in (by omega) (by omega)
  obtain ⟨L, hL⟩ : ∃ L, L = (words m).length := ⟨_, rfl⟩
  obtain ⟨L2, hL2⟩ : ∃ L, L = (words m2).length := ⟨_, rfl⟩
  unfold NV at hs1 hs2 ⊢
  simp only [← hL] at hu1 hz hs1 ⊢
  simp only [← hL2] at hu2 hz2 hs2 ⊢
  have HU1 := Lib.hid hu1; have HU2 := Lib.hid hu2; have HO := Lib.hid ho; have HS1 := Lib.hid hs1; have HS2 := Lib.hid hs2
  have HA1 := Lib.hid hW
  have HA2 := Lib.hid hW2
  have HMG := Lib.hid hmg
  clear hL hL2 hW hW2 hc hc2 hcm hcm2 hu1 hu2 ho hs1 hs2 hmg hG hh1 hh2 hlm hlm2 hmX hmY hX hY hl hl2 hm hm2 he he2 hk hk2 hb1 hb2
  go_enter Tryz.func32, Tryz.ntmps32
  go_upto_block 0 with fail
  obtain ⟨w1, hwe⟩ : ∃ w1, w1 = ((w.alloc (.cells #[.bool false, .slice A L c, .int .i64 e] 30)).alloc (.cells #[.bool false, .slice A2 L2 c2, .int .i64 e2] 30)) := ⟨_, rfl⟩
  have hw1 : w.grownBy w1 none := by rw [hwe]; exact grown_trans (grown_alloc _ _ _) (grown_alloc _ _ _)
  obtain ⟨x0, x1, x2⟩ := row3 (show w1.heap[w.heap.size]? = some (.cells #[.bool false, .slice A L c, .int .i64 e] 30 (0, 0)) by rw [hwe]; exact heap_old (heap_at rfl))
  obtain ⟨x3, x4, x5⟩ := row3 (show w1.heap[w.heap.size + 1]? = some (.cells #[.bool false, .slice A2 L2 c2, .int .i64 e2] 30 (0, 0)) by rw [hwe]; exact heap_at (by simp))
  rw [← hwe]
  clear hwe
  have HW1 := Lib.hid hw1
  have HM1 := Lib.hid (HA1.out.grown0 (Nat.le_refl _) hw1)
  have HM2 := Lib.hid (HA2.out.grown0 (Nat.le_refl _) hw1)
  clear hw1
  have KK : Hid (∀ w' : World, w1.grownBy w' none → w'.cell? ⟨w.heap.size, 0, none⟩ = some (.bool false) ∧ w'.cell? ⟨w.heap.size, 1, none⟩ = some (.slice A L c) ∧ w'.cell? ⟨w.heap.size, 2, none⟩ = some (.int .i64 e) ∧ w'.cell? ⟨w.heap.size + 1, 0, none⟩ = some (.bool false) ∧ w'.cell? ⟨w.heap.size + 1, 1, none⟩ = some (.slice A2 L2 c2) ∧ w'.cell? ⟨w.heap.size + 1, 2, none⟩ = some (.int .i64 e2) ∧ w1.grownBy w' none) := fun w' h => ⟨cell_ext h x0, cell_ext h x1, cell_ext h x2, cell_ext h x3, cell_ext h x4, cell_ext h x5, h⟩
  go_upto_region 3 with fail
  go_cut [24] (fun v24 wx => v24 = .bool (h1 != h2) ∧ Hid (w1.grownBy wx none))
  case first =>
    go_region_held3 (fun w' : World => w'.cell? ⟨w.heap.size, 0, none⟩ = some (.bool false) ∧ w'.cell? ⟨w.heap.size, 1, none⟩ = some (.slice A L c) ∧ w'.cell? ⟨w.heap.size, 2, none⟩ = some (.int .i64 e) ∧ w'.cell? ⟨w.heap.size + 1, 0, none⟩ = some (.bool false) ∧ w'.cell? ⟨w.heap.size + 1, 1, none⟩ = some (.slice A2 L2 c2) ∧ w'.cell? ⟨w.heap.size + 1, 2, none⟩ = some (.int .i64 e2) ∧ w1.grownBy w' none)
      (first
        | with_reducible exact KK.out _ (drew_grown' _)
        | (go_split_ands; with_reducible exact KK.out _ (grown_trans (by assumption) hgl)))
      (first
        | (go_at_call_of 54 (Value.agg #[.bool false, .slice A L c, .int .i64 e]); go_split_ands; refine (HS1.out _ (grown_trans HW1.out (by assumption))).mono ?_; rintro e1 w2 ⟨rfl, hgl⟩)
        | (go_at_call_of 54 (Value.agg #[.bool false, .slice A2 L2 c2, .int .i64 e2]); go_split_ands; refine (HS2.out _ (grown_trans HW1.out (by assumption))).mono ?_; rintro e1 w3 ⟨rfl, hgl⟩; have hlast := grown_trans (show w1.grownBy _ none by assumption) hgl))
    all_goals
      go_wp2
      go_meet
      exact ⟨rfl, hlast⟩
  case rest =>
    obtain ⟨rfl, hg2⟩ := hcut
    by_cases hne : h1 = h2
    · have hne' : (h1 != h2) = false := by rw [bne_eq_false_iff_eq]; exact hne
      obtain ⟨y0, y1, y2, y3, y4, y5, _⟩ := KK.out _ hg2.out
      have HR : Hid (∀ W, w1.grownBy W none → Ending.returned (.int .i64 (cmpI X Y)) = Ending.returned (.int .i64 G) ∧ w.grownBy W none) := fun W h => ⟨by rw [HMG.out, if_neg (by omega)], grown_trans HW1.out h⟩
      have HGd := Lib.hid (grown_trans hg2.out (drew_grown' _))
      clear hne HMG
      go_upto_region 6 with fail
      go_region_held3 (fun w' : World => w'.cell? ⟨w.heap.size, 0, none⟩ = some (.bool false) ∧ w'.cell? ⟨w.heap.size, 1, none⟩ = some (.slice A L c) ∧ w'.cell? ⟨w.heap.size, 2, none⟩ = some (.int .i64 e) ∧ w'.cell? ⟨w.heap.size + 1, 0, none⟩ = some (.bool false) ∧ w'.cell? ⟨w.heap.size + 1, 1, none⟩ = some (.slice A2 L2 c2) ∧ w'.cell? ⟨w.heap.size + 1, 2, none⟩ = some (.int .i64 e2) ∧ w1.grownBy w' none)
        (first
          | with_reducible exact KK.out _ HGd.out
          | (go_split_ands; with_reducible exact KK.out _ (grown_trans (by assumption) hgl)))
        (first
          | (go_at_call_of 27 (Value.slice A L c); go_split_ands; refine (HU1.out _ (HM1.out.grown0 (Nat.le_refl _) (by assumption))).mono ?_; rintro e1 w2 ⟨A3, c3, rfl, hc3, hcm3, hW3, hb3⟩; have hgl := grown_of_below hb3 none; have HW3 := Lib.hid hW3; clear hW3)
          | (go_at_call_of 27 (Value.slice A2 L2 c2); go_split_ands; refine (HU2.out _ (HM2.out.grown0 (Nat.le_refl _) (by assumption))).mono ?_; rintro e1 w3 ⟨A4, c4, rfl, hc4, hcm4, hW4, hb4⟩; have hgl := grown_of_below hb4 none; have HW4 := Lib.hid hW4; have HW34 := Lib.hid (HW3.out.grown0 (Nat.le_refl _) hgl); clear hW4)
          | (go_at_call 29; go_split_ands; refine (HO.out _ _ _ _ _ HW34.out HW4.out).mono ?_; rintro e1 w5 ⟨rfl, nq, hw5⟩; have hgl := grown_of_drewN hw5; have hlast := grown_trans (show w1.grownBy _ none by assumption) hgl; clear hw5))
      all_goals
        go_wp2
        go_ret
        exact HR.out _ hlast
    · have hne' : (h1 != h2) = true := by rw [bne_iff_ne]; exact hne
      obtain ⟨y0, y1, y2, y3, y4, y5, _⟩ := KK.out _ hg2.out
      have HR : Hid (∀ W, w1.grownBy W none → Ending.returned (.int .i64 (h1 - h2)) = Ending.returned (.int .i64 G) ∧ w.grownBy W none) := fun W h => ⟨by rw [HMG.out, if_pos hne], grown_trans HW1.out h⟩
      have HGd := Lib.hid (grown_trans hg2.out (drew_grown' _))
      clear hne HMG
      go_upto_region 4 with fail
      go_region_held3 (fun w' : World => w'.cell? ⟨w.heap.size, 0, none⟩ = some (.bool false) ∧ w'.cell? ⟨w.heap.size, 1, none⟩ = some (.slice A L c) ∧ w'.cell? ⟨w.heap.size, 2, none⟩ = some (.int .i64 e) ∧ w'.cell? ⟨w.heap.size + 1, 0, none⟩ = some (.bool false) ∧ w'.cell? ⟨w.heap.size + 1, 1, none⟩ = some (.slice A2 L2 c2) ∧ w'.cell? ⟨w.heap.size + 1, 2, none⟩ = some (.int .i64 e2) ∧ w1.grownBy w' none)
        (first
          | with_reducible exact KK.out _ HGd.out
          | (go_split_ands; with_reducible exact KK.out _ (grown_trans (by assumption) hgl)))
        (first
          | (go_at_call_of 54 (Value.agg #[.bool false, .slice A L c, .int .i64 e]); go_split_ands; refine (HS1.out _ (grown_trans HW1.out (by assumption))).mono ?_; rintro e1 w2 ⟨rfl, hgl⟩)
          | (go_at_call_of 54 (Value.agg #[.bool false, .slice A2 L2 c2, .int .i64 e2]); go_split_ands; refine (HS2.out _ (grown_trans HW1.out (by assumption))).mono ?_; rintro e1 w3 ⟨rfl, hgl⟩; have hlast := grown_trans (show w1.grownBy _ none by assumption) hgl))
      all_goals
        go_wp2
        go_ret
        exact HR.out _ hlast
end Go.Proofs.YtjbdadhggejoiaaGreatDoor

namespace Go.Proofs.YtjbdadhggejoiaaGreatDoor
open Go.RowKit
set_option maxRecDepth 100000

set_option maxHeartbeats 4000000 in
theorem corder2_calls (v v2 : Value) (m m2 k k2 : Nat) (e e2 E : Int) (w : World) (hv : NR w v false m e) (hv2 : NR w v2 false m2 e2) (hm : m ≠ 0) (hm2 : m2 ≠ 0) (hE : min e e2 = E) (hk : e - E = k) (hk2 : e2 - E = k2) (hl : (words (m * 2 ^ k)).length ≤ 1048576) (hl2 : (words (m2 * 2 ^ k2)).length ≤ 1048576) (he : -8388608 ≤ e ∧ e ≤ 8388608) (he2 : -8388608 ≤ e2 ∧ e2 ≤ 8388608) :
    Calls Tryz.prog 11 #[v, v2] w fun en w' => ∃ r : Int, en = .returned (.int .i64 r) ∧ (mgn m m2 e e2 (m * 2 ^ k) (m2 * 2 ^ k2) ≤ 0 → r ≤ 0) ∧ w.grownBy w' none := by
  have hs1 := fun W (hg : w.grownBy W none) => csgn_calls v m e W (NR.grown0 hv hg)
  have hs2 := fun W (hg : w.grownBy W none) => csgn_calls v2 m2 e2 W (NR.grown0 hv2 hg)
  rw [if_neg hm] at hs1
  rw [if_neg hm2] at hs2
  have hg := fun W (hg : w.grownBy W none) => cmagnitude_calls v v2 m m2 k k2 e e2 E W (NR.grown0 hv hg) (NR.grown0 hv2 hg) hm hm2 hE hk hk2 hl hl2 he he2
  obtain ⟨A, c, rfl, hc, hcm, hW⟩ := hv
  obtain ⟨A2, c2, rfl, hc2, hcm2, hW2⟩ := hv2
  obtain ⟨G, hG⟩ : ∃ G, G = mgn m m2 e e2 (m * 2 ^ k) (m2 * 2 ^ k2) := ⟨_, rfl⟩
  simp only [← hG] at hg ⊢
  obtain ⟨L, hL⟩ : ∃ L, L = (words m).length := ⟨_, rfl⟩
  obtain ⟨L2, hL2⟩ : ∃ L, L = (words m2).length := ⟨_, rfl⟩
  unfold NV at hs1 hs2 hg ⊢
  simp only [← hL, ← hL2] at hs1 hs2 hg ⊢
  have HG := Lib.hid hg; have HS1 := Lib.hid hs1; have HS2 := Lib.hid hs2
  clear hL hL2 hW hW2 hc hc2 hcm hcm2 hg hs1 hs2 hG hl hl2 hm hm2 he he2 hk hk2
  go_enter Tryz.func11, Tryz.ntmps11
  go_upto_region 1 with fail
  obtain ⟨w1, hwe⟩ : ∃ w1, w1 = ((w.alloc (.cells #[.bool false, .slice A L c, .int .i64 e] 30)).alloc (.cells #[.bool false, .slice A2 L2 c2, .int .i64 e2] 30)) := ⟨_, rfl⟩
  have hw1 : w.grownBy w1 none := by rw [hwe]; exact grown_trans (grown_alloc _ _ _) (grown_alloc _ _ _)
  obtain ⟨x0, x1, x2⟩ := row3 (show w1.heap[w.heap.size]? = some (.cells #[.bool false, .slice A L c, .int .i64 e] 30 (0, 0)) by rw [hwe]; exact heap_old (heap_at rfl))
  obtain ⟨x3, x4, x5⟩ := row3 (show w1.heap[w.heap.size + 1]? = some (.cells #[.bool false, .slice A2 L2 c2, .int .i64 e2] 30 (0, 0)) by rw [hwe]; exact heap_at (by simp))
  rw [← hwe]
  clear hwe
  have HW1 := Lib.hid hw1
  clear hw1
  have KK : Hid (∀ w' : World, w1.grownBy w' none → w'.cell? ⟨w.heap.size, 0, none⟩ = some (.bool false) ∧ w'.cell? ⟨w.heap.size, 1, none⟩ = some (.slice A L c) ∧ w'.cell? ⟨w.heap.size, 2, none⟩ = some (.int .i64 e) ∧ w'.cell? ⟨w.heap.size + 1, 0, none⟩ = some (.bool false) ∧ w'.cell? ⟨w.heap.size + 1, 1, none⟩ = some (.slice A2 L2 c2) ∧ w'.cell? ⟨w.heap.size + 1, 2, none⟩ = some (.int .i64 e2) ∧ w1.grownBy w' none) := fun w' h => ⟨cell_ext h x0, cell_ext h x1, cell_ext h x2, cell_ext h x3, cell_ext h x4, cell_ext h x5, h⟩
  go_cut [5, 6] (fun v5 v6 wx => v5 = .int .i64 1 ∧ v6 = .int .i64 1 ∧ Hid (w1.grownBy wx none))
  case first =>
    go_region_held3 (fun w' : World => w'.cell? ⟨w.heap.size, 0, none⟩ = some (.bool false) ∧ w'.cell? ⟨w.heap.size, 1, none⟩ = some (.slice A L c) ∧ w'.cell? ⟨w.heap.size, 2, none⟩ = some (.int .i64 e) ∧ w'.cell? ⟨w.heap.size + 1, 0, none⟩ = some (.bool false) ∧ w'.cell? ⟨w.heap.size + 1, 1, none⟩ = some (.slice A2 L2 c2) ∧ w'.cell? ⟨w.heap.size + 1, 2, none⟩ = some (.int .i64 e2) ∧ w1.grownBy w' none)
      (first
        | with_reducible exact KK.out _ (drew_grown' _)
        | (go_split_ands; with_reducible exact KK.out _ (grown_trans (by assumption) hgl)))
      (first
        | (go_at_call_of 31 (Value.agg #[.bool false, .slice A L c, .int .i64 e]); go_split_ands; refine (HS1.out _ (grown_trans HW1.out (by assumption))).mono ?_; rintro e1 w2 ⟨rfl, hgl⟩)
        | (go_at_call_of 31 (Value.agg #[.bool false, .slice A2 L2 c2, .int .i64 e2]); go_split_ands; refine (HS2.out _ (grown_trans HW1.out (by assumption))).mono ?_; rintro e1 w3 ⟨rfl, hgl⟩; have hlast := grown_trans (show w1.grownBy _ none by assumption) hgl))
    all_goals
      go_wp2
      go_meet
      exact ⟨rfl, rfl, hlast⟩
  case rest =>
    obtain ⟨rfl, rfl, hg2⟩ := hcut
    obtain ⟨y0, y1, y2, y3, y4, y5, _⟩ := KK.out _ hg2.out
    go_wp2_with fail
    refine (HG.out _ (grown_trans HW1.out hg2.out)).mono ?_
    rintro e3 w3 ⟨rfl, hg3⟩
    have HR : Hid (∀ r : Int, (G ≤ 0 → r ≤ 0) → ∃ r' : Int, Ending.returned (.int .i64 r) = .returned (.int .i64 r') ∧ (G ≤ 0 → r' ≤ 0) ∧ w.grownBy w3 none) := fun r hr => ⟨r, rfl, hr, grown_trans (grown_trans HW1.out hg2.out) hg3⟩
    clear hg3 y0 y1 y2 y3 y4 y5 x0 x1 x2 x3 x4 x5
    by_cases hn : G < 0
    · go_wp2
      go_ret
      exact HR.out _ (fun _ => by decide)
    · by_cases hp : 0 < G
      · go_wp2
        go_ret
        exact HR.out _ (fun h => absurd hp (by omega))
      · go_wp2
        go_ret
        exact HR.out _ (fun _ => by decide)
end Go.Proofs.YtjbdadhggejoiaaGreatDoor

namespace Go.Proofs.YtjbdadhggejoiaaGreatDoor
open Go.RowKit
set_option maxRecDepth 100000

/-- v reads as a number above 0, X times 2^K; b bounds its digits and its exponent -/
def NNum (w : World) (v : Value) (b : Nat) (K : Int) (X : Nat) : Prop :=
  ∃ m e, NR w v false m e ∧ m ≠ 0 ∧ m < 2 ^ b ∧ -(b : Int) ≤ e ∧ e ≤ b ∧ K ≤ e ∧ m * 2 ^ (e - K).toNat = X
theorem NNum.grown {w w' : World} {v : Value} {b : Nat} {K : Int} {X : Nat} (h : NNum w v b K X) (hg : w.grownBy w' none) : NNum w' v b K X := by
  obtain ⟨m, e, h1, h2⟩ := h
  exact ⟨m, e, NR.grown0 h1 hg, h2⟩
theorem NNum.low {w : World} {v : Value} {b j : Nat} {K K' : Int} {X : Nat} (h : NNum w v b K X) (hK : K' = K - j) : NNum w v b K' (X * 2 ^ j) := by
  obtain ⟨m, e, h1, h2, h3, h4, h5, h6, rfl⟩ := h
  refine ⟨m, e, h1, h2, h3, h4, h5, by omega, ?_⟩
  rw [Nat.mul_assoc, ← Nat.pow_add]
  congr 2
  omega
theorem NNum.wide {w : World} {v : Value} {b b' : Nat} {K : Int} {X : Nat} (h : NNum w v b K X) (hb : b ≤ b') : NNum w v b' K X := by
  obtain ⟨m, e, h1, h2, h3, h4, h5, h6, h7⟩ := h
  exact ⟨m, e, h1, h2, Nat.lt_of_lt_of_le h3 (Nat.pow_le_pow_right (by decide) hb), by omega, by omega, h6, h7⟩
theorem words_b {m b : Nat} (h : m < 2 ^ b) : (words m).length ≤ b := by
  refine words_len_lt (Nat.lt_of_lt_of_le h ?_)
  rw [show (4294967296 : Nat) = 2 ^ 32 from rfl, ← Nat.pow_mul]
  exact Nat.pow_le_pow_right (by decide) (by omega)
theorem tz_b {P b : Nat} (h0 : P ≠ 0) (h : P < 2 ^ b) : tz P < b := by
  obtain ⟨h1, h2⟩ := tz_spec h0
  have h3 : 1 ≤ P / 2 ^ tz P := by
    generalize P / 2 ^ tz P = q at h2
    omega
  have h4 : 2 ^ tz P * 1 ≤ 2 ^ tz P * (P / 2 ^ tz P) := Nat.mul_le_mul_left _ h3
  exact (Nat.pow_lt_pow_iff_right (by decide)).1 (by omega : 2 ^ tz P < 2 ^ b)
theorem norm_worth {P : Nat} {E K : Int} (h0 : P ≠ 0) (hK : K ≤ E) : P / 2 ^ tz P * 2 ^ (E + tz P - K).toNat = P * 2 ^ (E - K).toNat := by
  obtain ⟨h1, _⟩ := tz_spec h0
  rw [show (E + tz P - K).toNat = tz P + (E - K).toNat by omega, Nat.pow_add, ← Nat.mul_assoc, Nat.mul_comm (P / 2 ^ tz P), ← h1]
/-- what makes such a number -/
def NGive (w : World) (b : Nat) (K : Int) (X : Nat) (en : Ending) (w' : World) : Prop := ∃ v, en = .returned v ∧ NNum w' v b K X ∧ w.grownBy w' none
theorem NOne.give {w w' : World} {en : Ending} {P b B : Nat} {E K : Int} (h : NOne w (P / 2 ^ tz P) (E + tz P) en w') (h0 : P ≠ 0) (hP : P < 2 ^ b) (hK : K ≤ E) (hB1 : -(B : Int) ≤ E) (hB2 : E + b ≤ B) (hB3 : b ≤ B) : NGive w B K (P * 2 ^ (E - K).toNat) en w' := by
  obtain ⟨v, rfl, h1, h2⟩ := h
  have ht := tz_b h0 hP
  refine ⟨v, rfl, ⟨_, _, h1, ?_, ?_, by omega, by omega, by omega, norm_worth h0 hK⟩, h2⟩
  · have := (tz_spec h0).2
    generalize P / 2 ^ tz P = q at this
    omega
  · exact Nat.lt_of_le_of_lt (Nat.div_le_self _ _) (Nat.lt_of_lt_of_le hP (Nat.pow_le_pow_right (by decide) hB3))
theorem two_le_min {e e2 : Int} : min e e2 ≤ e ∧ min e e2 ≤ e2 ∧ (min e e2 = e ∨ min e e2 = e2) := by omega
theorem nplus_calls {v v2 : Value} {b : Nat} {K : Int} {X Y : Nat} (w : World) (h : NNum w v b K X) (h2 : NNum w v2 b K Y) (hb : b ≤ 100000) :
    Calls Tryz.prog 10 #[v, v2] w fun en w' => NGive w (4 * b + 1) K (X + Y) en w' := by
  obtain ⟨m, e, h1, hm, hmb, e1, e2, hK, rfl⟩ := h
  obtain ⟨m2, e', h2, hm2, hmb2, e3, e4, hK2, rfl⟩ := h2
  obtain ⟨t1, t2, t3⟩ := two_le_min (e := e) (e2 := e')
  obtain ⟨E, hE⟩ : ∃ E, min e e' = E := ⟨_, rfl⟩
  rw [hE] at t1 t2 t3
  obtain ⟨k, hk⟩ : ∃ k : Nat, e - E = k := ⟨(e - E).toNat, by omega⟩
  obtain ⟨k2, hk2⟩ : ∃ k : Nat, e' - E = k := ⟨(e' - E).toNat, by omega⟩
  have hP : m * 2 ^ k + m2 * 2 ^ k2 < 2 ^ (3 * b + 1) := by
    have a1 : m * 2 ^ k < 2 ^ b * 2 ^ (2 * b) := Nat.lt_of_lt_of_le (Nat.mul_lt_mul_of_pos_right hmb (Nat.two_pow_pos _)) (Nat.mul_le_mul_left _ (Nat.pow_le_pow_right (by decide) (by omega)))
    have a2 : m2 * 2 ^ k2 < 2 ^ b * 2 ^ (2 * b) := Nat.lt_of_lt_of_le (Nat.mul_lt_mul_of_pos_right hmb2 (Nat.two_pow_pos _)) (Nat.mul_le_mul_left _ (Nat.pow_le_pow_right (by decide) (by omega)))
    rw [← Nat.pow_add] at a1 a2
    rw [Nat.pow_succ, show 3 * b = b + 2 * b by omega]
    omega
  have hP0 : m * 2 ^ k + m2 * 2 ^ k2 ≠ 0 := by
    have := Nat.mul_pos (Nat.pos_of_ne_zero hm) (Nat.two_pow_pos k)
    omega
  refine (cplus_calls v v2 m m2 k k2 e e' E w h1 h2 hm hm2 hE hk hk2 (by have := words_b hP; omega) (by omega) (by omega)).mono fun en w' hx => ?_
  have := hx.give (b := 3 * b + 1) (B := 4 * b + 1) (K := K) hP0 hP (by omega) (by omega) (by omega) (by omega)
  rwa [Nat.add_mul, Nat.mul_assoc, Nat.mul_assoc, ← Nat.pow_add, ← Nat.pow_add, show k + (E - K).toNat = (e - K).toNat by omega, show k2 + (E - K).toNat = (e' - K).toNat by omega] at this
theorem ntimes_calls {v v2 : Value} {b : Nat} {K K2 : Int} {X Y : Nat} (w : World) (h : NNum w v b K X) (h2 : NNum w v2 b K Y) (hb : b ≤ 100000) (hK2 : K2 = 2 * K) :
    Calls Tryz.prog 12 #[v, v2] w fun en w' => NGive w (4 * b) K2 (X * Y) en w' := by
  obtain ⟨m, e, h1, hm, hmb, e1, e2, hK, rfl⟩ := h
  obtain ⟨m2, e', h2, hm2, hmb2, e3, e4, hK', rfl⟩ := h2
  have hP : m * m2 < 2 ^ (2 * b) := by
    rw [show 2 * b = b + b by omega, Nat.pow_add]
    exact Nat.mul_lt_mul'' hmb hmb2
  have hP0 : m * m2 ≠ 0 := Nat.mul_ne_zero hm hm2
  refine (ctimes_calls v v2 m m2 e e' w h1 h2 hm hm2 (by have := words_b hmb; omega) (by have := words_b hmb2; omega) (by have := words_b hP; omega) (by omega) (by omega)).mono fun en w' hx => ?_
  have := hx.give (b := 2 * b) (B := 4 * b) (K := K2) hP0 hP (by omega) (by omega) (by omega) (by omega)
  rwa [show (e + e' - K2).toNat = (e - K).toNat + (e' - K).toNat by omega, Nat.pow_add, show ∀ a b c d : Nat, a * b * (c * d) = a * c * (b * d) from fun a b c d => by rw [Nat.mul_assoc, Nat.mul_assoc, Nat.mul_left_comm b c d]] at this
theorem nscaled_calls {v : Value} {b : Nat} {K K2 : Int} {X : Nat} (w : World) (h : NNum w v b K X) (hb : b ≤ 100000) (hK2 : K2 = K - 1) :
    Calls Tryz.prog 9 #[v, .int .i64 (-1)] w fun en w' => NGive w (b + 1) K2 X en w' := by
  obtain ⟨m, e, h1, hm, hmb, e1, e2, hK, rfl⟩ := h
  refine (cscaled_calls v m e (-1) w h1 hm (by omega) (by omega)).mono fun en w' hx => ?_
  obtain ⟨v', rfl, h3, h4⟩ := hx
  exact ⟨v', rfl, ⟨m, e + -1, h3, hm, Nat.lt_of_lt_of_le hmb (Nat.pow_le_pow_right (by decide) (by omega)), by omega, by omega, by omega, by congr 2; omega⟩, h4⟩
theorem bitLen_mul {m k : Nat} (h : m ≠ 0) : Go.bitLen (m * 2 ^ k) = Go.bitLen m + k := by
  have h1 := (bitLen_spec m).1
  have h2 := (bitLen_spec m).2 h
  have h3 := bl_pos h
  obtain ⟨j, hj⟩ : ∃ j, Go.bitLen m = j + 1 := ⟨Go.bitLen m - 1, by omega⟩
  rw [hj] at h1 h2 ⊢
  rw [show j + 1 + k = j + k + 1 by omega]
  apply bl_unique
  · rw [Nat.pow_add]; exact Nat.mul_le_mul_right _ h2
  · rw [show j + k + 1 = j + 1 + k by omega, Nat.pow_add]; exact Nat.mul_lt_mul_of_pos_right h1 (Nat.two_pow_pos _)
theorem bitLen_mono {n m : Nat} (h : n ≤ m) : Go.bitLen n ≤ Go.bitLen m := by
  by_cases hn : n = 0
  · subst hn; rw [bl_zero]; exact Nat.zero_le _
  · have h1 := (bitLen_spec n).2 hn
    have h2 := (bitLen_spec m).1
    have := (Nat.pow_lt_pow_iff_right (by decide)).1 (by omega : 2 ^ (Go.bitLen n - 1) < 2 ^ Go.bitLen m)
    omega
theorem mgn_le {m m2 k k2 : Nat} {e e2 E : Int} (hm : m ≠ 0) (hm2 : m2 ≠ 0) (hk : e - E = k) (hk2 : e2 - E = k2) (h : m * 2 ^ k ≤ m2 * 2 ^ k2) : mgn m m2 e e2 (m * 2 ^ k) (m2 * 2 ^ k2) ≤ 0 := by
  have h1 := bitLen_mono h
  rw [bitLen_mul hm, bitLen_mul hm2] at h1
  unfold mgn
  split
  · omega
  · unfold cmpI
    split
    · omega
    · rw [if_pos (by omega)]; omega
theorem norder_calls {v v2 : Value} {b : Nat} {K : Int} {X Y : Nat} (w : World) (h : NNum w v b K X) (h2 : NNum w v2 b K Y) (hb : b ≤ 100000) (hle : X ≤ Y) :
    Calls Tryz.prog 11 #[v, v2] w fun en w' => ∃ r : Int, en = .returned (.int .i64 r) ∧ r ≤ 0 ∧ w.grownBy w' none := by
  obtain ⟨m, e, h1, hm, hmb, e1, e2, hK, rfl⟩ := h
  obtain ⟨m2, e', h2, hm2, hmb2, e3, e4, hK2, rfl⟩ := h2
  obtain ⟨t1, t2, t3⟩ := two_le_min (e := e) (e2 := e')
  obtain ⟨E, hE⟩ : ∃ E, min e e' = E := ⟨_, rfl⟩
  rw [hE] at t1 t2 t3
  obtain ⟨k, hk⟩ : ∃ k : Nat, e - E = k := ⟨(e - E).toNat, by omega⟩
  obtain ⟨k2, hk2⟩ : ∃ k : Nat, e' - E = k := ⟨(e' - E).toNat, by omega⟩
  have a1 : m * 2 ^ k < 2 ^ (3 * b) := by
    rw [show 3 * b = b + 2 * b by omega, Nat.pow_add]
    exact Nat.lt_of_lt_of_le (Nat.mul_lt_mul_of_pos_right hmb (Nat.two_pow_pos _)) (Nat.mul_le_mul_left _ (Nat.pow_le_pow_right (by decide) (by omega)))
  have a2 : m2 * 2 ^ k2 < 2 ^ (3 * b) := by
    rw [show 3 * b = b + 2 * b by omega, Nat.pow_add]
    exact Nat.lt_of_lt_of_le (Nat.mul_lt_mul_of_pos_right hmb2 (Nat.two_pow_pos _)) (Nat.mul_le_mul_left _ (Nat.pow_le_pow_right (by decide) (by omega)))
  have hle' : m * 2 ^ k ≤ m2 * 2 ^ k2 := by
    rw [show (e - K).toNat = k + (E - K).toNat by omega, show (e' - K).toNat = k2 + (E - K).toNat by omega, Nat.pow_add, Nat.pow_add, ← Nat.mul_assoc, ← Nat.mul_assoc] at hle
    exact Nat.le_of_mul_le_mul_right hle (Nat.two_pow_pos _)
  refine (corder2_calls v v2 m m2 k k2 e e' E w h1 h2 hm hm2 hE hk hk2 (by have := words_b a1; omega) (by have := words_b a2; omega) (by omega) (by omega)).mono fun en w' hx => ?_
  obtain ⟨r, rfl, hr, hg⟩ := hx
  exact ⟨r, rfl, hr (mgn_le hm hm2 hk hk2 hle'), hg⟩
/-- what a float above 0 is worth, in units of 2^-1074 -/
def mgF (x : Nat) : Nat := fm x * 2 ^ (fe x + 1074).toNat
theorem nfloat_calls (x : Nat) (w : World) (h0 : 0 < x) (h : x < 9218868437227405312) :
    Calls Tryz.prog 6 #[.float .f64 x] w fun en w' => NGive w 1100 (-1074) (mgF x) en w' := by
  have hF : Fin64 x := ⟨by omega, by omega⟩
  have hfe := fe_bd hF
  have hfm := fm_lt x
  obtain ⟨hm0, _, ho1, ho2⟩ := ofF_pos h0 h
  refine (cfloat_calls x w h0 h).mono fun en w' hx => ?_
  rw [ho1, ho2] at hx
  have := hx.give (b := 53) (B := 1100) (K := -1074) hm0 hfm (by omega) (by omega) (by omega) (by omega)
  rwa [show fe x - -1074 = fe x + 1074 by omega] at this
end Go.Proofs.YtjbdadhggejoiaaGreatDoor

namespace Go.Proofs.YtjbdadhggejoiaaGreatDoor
open Go.RowKit
set_option maxRecDepth 100000

theorem sqrt_ex (N : Nat) : ∃ r, r * r ≤ N ∧ N < (r + 1) * (r + 1) := by
  induction N with
  | zero => exact ⟨0, by omega, by omega⟩
  | succ n ih =>
    obtain ⟨r, h1, h2⟩ := ih
    by_cases h : n + 1 < (r + 1) * (r + 1)
    · exact ⟨r, by omega, h⟩
    · have e : n + 1 = (r + 1) * (r + 1) := by omega
      exact ⟨r + 1, by omega, by rw [e]; exact Nat.mul_lt_mul'' (by omega) (by omega)⟩
theorem mgF_fbits {m T : Nat} {p : Int} (h1 : 4503599627370496 ≤ m) (h2 : m ≤ 9007199254740992) (hp1 : -1074 ≤ p) (hp2 : p ≤ 970) (hT : p + 1074 = T) : mgF (fbits m p) = m * 2 ^ T := by
  rcases Nat.lt_or_ge m 9007199254740992 with h | h
  · obtain ⟨e1, e2⟩ := fbits_m h1 h hp1 (by omega)
    unfold mgF
    rw [e1, e2]
    congr 2
    omega
  · obtain rfl : m = 9007199254740992 := by omega
    rw [fbits_up hp1]
    obtain ⟨e1, e2⟩ := fbits_m (m := 4503599627370496) (p := p + 1) (by omega) (by omega) (by omega) (by omega)
    unfold mgF
    rw [e1, e2, show (p + 1 + 1074).toNat = T + 1 by omega, Nat.pow_succ]
    omega
theorem fbits_succ {m : Nat} {p : Int} : fbits m p + 1 = fbits (m + 1) p := by unfold fbits; omega
theorem mgF_next {m T : Nat} {p : Int} (h1 : 4503599627370496 ≤ m) (h2 : m ≤ 9007199254740992) (hp1 : -1074 ≤ p) (hp2 : p ≤ 970) (hT : p + 1074 = T) : (m + 1) * 2 ^ T ≤ mgF (fbits m p + 1) := by
  rcases Nat.lt_or_ge m 9007199254740992 with h | h
  · rw [fbits_succ, mgF_fbits (by omega) (by omega) hp1 hp2 hT]
    exact Nat.le_refl _
  · obtain rfl : m = 9007199254740992 := by omega
    rw [fbits_up hp1, fbits_succ]
    obtain ⟨e1, e2⟩ := fbits_m (m := 4503599627370496 + 1) (p := p + 1) (by omega) (by omega) (by omega) (by omega)
    unfold mgF
    rw [e1, e2, show (p + 1 + 1074).toNat = T + 1 by omega, Nat.pow_succ]
    omega
theorem mgF_prev {m T : Nat} {p : Int} (h1 : 4503599627370496 < m) (h2 : m ≤ 9007199254740992) (hp1 : -1074 ≤ p) (hp2 : p ≤ 970) (hT : p + 1074 = T) : mgF (fbits m p - 1) = (m - 1) * 2 ^ T := by
  obtain ⟨j, rfl⟩ : ∃ j, m = j + 1 := ⟨m - 1, by omega⟩
  rw [← fbits_succ, Nat.add_sub_cancel, mgF_fbits (by omega) (by omega) hp1 hp2 hT, Nat.add_sub_cancel]
theorem mgF_prev0 {T : Nat} {p : Int} (hp1 : -1073 ≤ p) (hp2 : p ≤ 970) (hT : p + 1074 = T) : mgF (fbits 4503599627370496 p - 1) ≤ 4503599627370496 * 2 ^ T := by
  have e : fbits 4503599627370496 p - 1 = fbits 9007199254740991 (p - 1) := by unfold fbits; omega
  obtain ⟨j, rfl⟩ : ∃ j, T = j + 1 := ⟨T - 1, by omega⟩
  rw [e, mgF_fbits (by omega) (by omega) (by omega) (by omega) (T := j) (by omega), Nat.pow_succ]
  omega
/-- rounding to the nearest: what is left -/
theorem mg_near {r d h G : Nat} {rest : Bool} (hd : 53 < Go.bitLen r) (hdd : d = 2 ^ (Go.bitLen r - 53)) (hh : h = 2 ^ (Go.bitLen r - 54)) (hG : G = mg0 r + (mgInc r rest false true).toNat) :
    d = 2 * h ∧ G * d ≤ r + h ∧ (r < G * d + h ∨ (r = G * d + h ∧ rest = false)) ∧ (G = 4503599627370496 → G * d ≤ r) := by
  have e1 : d = 2 * h := by rw [hdd, hh, show Go.bitLen r - 53 = Go.bitLen r - 54 + 1 by omega, Nat.pow_succ, Nat.mul_comm]
  have hb : Go.bitLen r ≠ 0 := by omega
  have hr0 : r ≠ 0 := fun e => by rw [e] at hb; exact hb bl_zero
  obtain ⟨b1, b2⟩ := mg0_bd hr0
  have hg : mg0 r = r / d := by unfold mg0; rw [if_neg (by omega), hdd]
  have hl : mgLow r = r % d := by unfold mgLow; rw [hdd]
  have hf : mgHalf r rest = if cmpZ (mgLow r) (h : Nat) = 0 ∧ rest = true then 1 else cmpZ (mgLow r) (h : Nat) := by unfold mgHalf; rw [if_neg (by omega), hh]
  have hi : mgInc r rest false true = (decide (0 < mgHalf r rest) || (decide (mgHalf r rest = 0) && decide (mg0 r % 2 = 1))) := by unfold mgInc; simp
  have hdiv := Nat.div_add_mod r d
  have hlt := Nat.mod_lt r (show 0 < d by rw [hdd]; exact Nat.two_pow_pos _)
  rw [← hg, ← hl] at hdiv
  rw [← hl] at hlt
  generalize mg0 r = g at *
  generalize mgLow r = low at *
  have hinc : (mgInc r rest false true = true → h ≤ low) ∧ (mgInc r rest false true = false → low < h ∨ (low = h ∧ rest = false)) := by
    rw [hi, hf]
    unfold cmpZ
    rcases Nat.lt_trichotomy low h with c | c | c
    · rw [if_pos (show (low : Int) < h by omega)]; simp; omega
    · subst c
      rw [if_neg (show ¬ (low : Int) < low by omega), if_pos rfl]
      cases rest <;> simp
    · rw [if_neg (show ¬ (low : Int) < h by omega), if_neg (show ¬ (low : Int) = h by omega)]; simp; omega
  generalize mgInc r rest false true = inc at *
  rw [Nat.mul_comm] at hdiv
  refine ⟨e1, ?_⟩
  cases inc
  · have hi2 := hinc.2 rfl
    rw [Bool.toNat_false, Nat.add_zero] at hG
    subst hG
    refine ⟨by omega, ?_, fun _ => by omega⟩
    rcases hi2 with c | ⟨c, c2⟩
    · exact .inl (by omega)
    · exact .inr ⟨by omega, c2⟩
  · have hi1 := hinc.1 rfl
    rw [Bool.toNat_true] at hG
    subst hG
    rw [Nat.add_mul, Nat.one_mul]
    exact ⟨by omega, .inl (by omega), fun e => by omega⟩
/-- the means of the root and its neighbours lie on both sides -/
theorem least_plain {r N V : Nat} {E2 : Int} {rest : Bool} (h1 : r * r ≤ N) (h2 : N < (r + 1) * (r + 1)) (hrest : rest = decide (r * r ≠ N)) (hb : 53 < Go.bitLen r) (hp1 : -1073 ≤ (Go.bitLen r : Int) + E2 - 53) (hp2 : (Go.bitLen r : Int) + E2 - 53 ≤ 970) (hE : 0 ≤ E2 + 1075) (hV : V = N * 2 ^ (2 * E2 + 2150).toNat) {z : Nat} (hz : z = magF r E2 rest false true) :
    (mgF z + mgF (z - 1)) * (mgF z + mgF (z - 1)) ≤ V ∧ V ≤ (mgF z + mgF (z + 1)) * (mgF z + mgF (z + 1)) := by
  have hb0 : Go.bitLen r ≠ 0 := by omega
  have hr0 : r ≠ 0 := fun e => by rw [e] at hb0; exact hb0 bl_zero
  obtain ⟨b1, b2⟩ := mg0_bd hr0
  have hi : (mgInc r rest false true).toNat ≤ 1 := Bool.toNat_le _
  obtain ⟨G, hG⟩ : ∃ G, G = mg0 r + (mgInc r rest false true).toNat := ⟨_, rfl⟩
  obtain ⟨p, hp⟩ : ∃ p, p = (Go.bitLen r : Int) + E2 - 53 := ⟨_, rfl⟩
  have hzz : z = fbits G p := by rw [hz, hG, hp]; rfl
  have hGb : 4503599627370496 ≤ G ∧ G ≤ 9007199254740992 := by omega
  obtain ⟨h, hh⟩ : ∃ h, h = 2 ^ (Go.bitLen r - 54) := ⟨_, rfl⟩
  obtain ⟨d, hd⟩ : ∃ d, d = 2 ^ (Go.bitLen r - 53) := ⟨_, rfl⟩
  obtain ⟨n1, n2, n3, n4⟩ := mg_near (rest := rest) hb hd hh hG
  obtain ⟨T, hT⟩ : ∃ T : Nat, p + 1074 = T := ⟨(p + 1074).toNat, by omega⟩
  obtain ⟨Q, hQ⟩ : ∃ Q : Nat, E2 + 1075 = Q := ⟨(E2 + 1075).toNat, by omega⟩
  have hTQ : 2 ^ T = h * 2 ^ Q := by
    rw [hh, ← Nat.pow_add]
    congr 1
    omega
  have hV2 : V = N * (2 ^ Q * 2 ^ Q) := by rw [hV, ← Nat.pow_add]; congr 2; omega
  have hz1 := mgF_fbits (T := T) hGb.1 hGb.2 (show -1074 ≤ p by omega) (by omega) hT
  have hz2 := mgF_next (T := T) hGb.1 hGb.2 (show -1074 ≤ p by omega) (by omega) hT
  rw [← hzz] at hz1 hz2
  have hsq : ∀ a b : Nat, a ≤ b → a * a ≤ b * b := fun a b h => Nat.mul_le_mul h h
  have hm : ∀ a : Nat, a * 2 ^ Q * (a * 2 ^ Q) = a * a * (2 ^ Q * 2 ^ Q) := fun a => by rw [Nat.mul_assoc, Nat.mul_left_comm (2 ^ Q), ← Nat.mul_assoc]
  constructor
  · have hdn : mgF z + mgF (z - 1) ≤ r * 2 ^ Q := by
      rcases Nat.lt_or_ge 4503599627370496 G with c | c
      · have hz3 := mgF_prev (T := T) c hGb.2 (show -1074 ≤ p by omega) (by omega) hT
        rw [← hzz] at hz3
        rw [hz1, hz3, hTQ, ← Nat.mul_assoc, ← Nat.mul_assoc, ← Nat.add_mul]
        refine Nat.mul_le_mul_right _ ?_
        obtain ⟨j, rfl⟩ : ∃ j, G = j + 1 := ⟨G - 1, by omega⟩
        rw [n1] at n2
        rw [Nat.add_sub_cancel, Nat.add_mul, Nat.one_mul]
        have e1 : (j + 1) * (2 * h) = 2 * (j * h) + 2 * h := by rw [Nat.add_mul, Nat.one_mul, Nat.mul_left_comm]
        omega
      · have hG0 : G = 4503599627370496 := by omega
        have hz3 := mgF_prev0 (T := T) (show -1073 ≤ p by omega) (by omega) hT
        rw [hG0] at hzz
        rw [← hzz] at hz3
        have n5 := n4 hG0
        refine Nat.le_trans (Nat.add_le_add_left hz3 _) ?_
        rw [hz1, hG0, hTQ, ← Nat.mul_assoc, ← Nat.add_mul]
        refine Nat.mul_le_mul_right _ ?_
        rw [n1, hG0] at n5
        omega
    refine Nat.le_trans (hsq _ _ hdn) ?_
    rw [hm, hV2]
    exact Nat.mul_le_mul_right _ h1
  · have hup : (G * d + h) * 2 ^ Q ≤ mgF z + mgF (z + 1) := by
      refine Nat.le_trans ?_ (Nat.add_le_add_left hz2 _)
      rw [hz1, hTQ, ← Nat.mul_assoc, ← Nat.mul_assoc, ← Nat.add_mul]
      refine Nat.mul_le_mul_right _ ?_
      rw [n1, Nat.add_mul, Nat.one_mul, Nat.mul_left_comm]
      omega
    refine Nat.le_trans ?_ (hsq _ _ hup)
    rw [hm, hV2]
    refine Nat.mul_le_mul_right _ ?_
    rcases n3 with c | ⟨c, c2⟩
    · exact Nat.le_trans (Nat.le_of_lt h2) (hsq _ _ (by omega))
    · rw [hrest, decide_eq_false_iff_not, Decidable.not_not] at c2
      rw [← c, ← c2]
      exact Nat.le_refl _
end Go.Proofs.YtjbdadhggejoiaaGreatDoor

namespace Go.Proofs.YtjbdadhggejoiaaGreatDoor
open Go.RowKit
set_option maxRecDepth 100000

/-- what is asked of the root's bits z -/
structure Least (f z : Nat) : Prop where
  lo : 4503599627370496 < z
  hi : z < 9200000000000000000
  dn : (mgF z + mgF (z - 1)) * (mgF z + mgF (z - 1)) ≤ mgF f * 2 ^ 1076
  up : mgF f * 2 ^ 1076 ≤ (mgF z + mgF (z + 1)) * (mgF z + mgF (z + 1))
theorem root_bl {N r : Nat} (h1 : r * r ≤ N) (h2 : N < (r + 1) * (r + 1)) (n1 : 2 ^ 127 ≤ N) (n2 : N < 2 ^ 129) : Go.bitLen r = 64 ∨ Go.bitLen r = 65 := by
  have a1 : 2 ^ 63 ≤ r := by
    rcases Nat.lt_or_ge r (2 ^ 63) with h | h
    · have := Nat.mul_le_mul (show r + 1 ≤ 2 ^ 63 by omega) (show r + 1 ≤ 2 ^ 63 by omega)
      omega
    · exact h
  have a2 : r < 2 ^ 65 := by
    rcases Nat.lt_or_ge r (2 ^ 65) with h | h
    · exact h
    · have := Nat.mul_le_mul h h
      omega
  rcases Nat.lt_or_ge r (2 ^ 64) with h | h
  · exact .inl (bl_unique (k := 63) a1 h)
  · exact .inr (bl_unique (k := 64) h a2)
theorem least_ex {f : Nat} (h0 : 0 < f) (h : f < 9218868437227405312) : ∃ r, SqOk (ofF f).m r (ofF f).e ∧ Least f (sqrtF (ofF f).m r (ofF f).e 2) := by
  have hF : Fin64 f := ⟨by omega, by omega⟩
  have hfe := fe_bd hF
  have hfm := fm_lt f
  obtain ⟨hm0, _, ho1, ho2⟩ := ofF_pos h0 h
  have hm1 := (tz_spec hm0).2
  have htz := tz_b (b := 53) hm0 hfm
  have hml : fm f / 2 ^ tz (fm f) ≤ fm f := Nat.div_le_self _ _
  have hw := norm_worth (E := fe f) (K := -1074) hm0 (by omega)
  rw [← ho1, ← ho2] at hw
  rw [← ho1] at hm1 hml
  obtain ⟨m, hm⟩ : ∃ m, m = (ofF f).m := ⟨_, rfl⟩
  obtain ⟨e, he⟩ : ∃ e, e = (ofF f).e := ⟨_, rfl⟩
  rw [← hm, ← he] at hw ⊢
  rw [← hm] at hm1 hml
  have hmg : mgF f = m * 2 ^ (e + 1074).toNat := by
    rw [show e + 1074 = e - -1074 by omega, hw]
    unfold mgF
    rw [show fe f + 1074 = fe f - -1074 by omega]
  have heb : -1074 ≤ e ∧ e ≤ 1023 := by rw [he, ho2]; omega
  have hmz : m ≠ 0 := by omega
  have hbl : Go.bitLen m ≤ 53 := by
    have h1 := (bitLen_spec m).2 hmz
    have := (Nat.pow_lt_pow_iff_right (by decide)).1 (by omega : 2 ^ (Go.bitLen m - 1) < 2 ^ 53)
    omega
  have hbp := bl_pos hmz
  have hk : (rk m e = 128 - Go.bitLen m ∨ rk m e = 128 - Go.bitLen m + 1) ∧ (e - rk m e) % 2 = 0 := by
    unfold rk rk0
    split
    · exact ⟨.inl rfl, by omega⟩
    · exact ⟨.inr rfl, by omega⟩
  obtain ⟨k, hke⟩ : ∃ k, k = rk m e := ⟨_, rfl⟩
  rw [← hke] at hk
  have hN : 2 ^ 127 ≤ m * 2 ^ k ∧ m * 2 ^ k < 2 ^ 129 := by
    have h1 := (bitLen_spec (m * 2 ^ k)).1
    have h2 := (bitLen_spec (m * 2 ^ k)).2 (Nat.mul_ne_zero hmz (Nat.pos_iff_ne_zero.1 (Nat.two_pow_pos _)))
    rw [bitLen_mul hmz] at h1 h2
    exact ⟨Nat.le_trans (Nat.pow_le_pow_right (by decide) (by omega)) h2, Nat.lt_of_lt_of_le h1 (Nat.pow_le_pow_right (by decide) (by omega))⟩
  obtain ⟨r, r1, r2⟩ := sqrt_ex (m * 2 ^ k)
  have hrb := root_bl r1 r2 hN.1 hN.2
  obtain ⟨E2, hE2⟩ : ∃ E2, E2 = (e - k) / 2 := ⟨_, rfl⟩
  have hEb : -601 ≤ E2 ∧ E2 ≤ 474 := by omega
  have hr0 : r ≠ 0 := fun e => by rw [e, bl_zero] at hrb; omega
  have hz : sqrtF m r e 2 = magF r E2 (decide (r * r ≠ m * 2 ^ k)) false true := by
    unfold sqrtF floF flUp
    rw [← hke, ← hE2]
    simp
  refine ⟨r, ⟨hmz, by rw [← hke]; exact r1, by rw [← hke]; exact r2, hr0, by rw [← hke, ← hE2]; omega, by rw [← hke, ← hE2]; omega⟩, ?_⟩
  obtain ⟨J, hJ⟩ : ∃ J : Nat, J = 1076 := ⟨_, rfl⟩
  have hV : mgF f * 2 ^ J = m * 2 ^ k * 2 ^ (2 * E2 + 2150).toNat := by
    rw [hmg, Nat.mul_assoc, Nat.mul_assoc, ← Nat.pow_add, ← Nat.pow_add]
    congr 2
    omega
  rw [hJ] at hV
  obtain ⟨q1, q2⟩ := least_plain (E2 := E2) r1 r2 rfl (by omega) (by omega) (by omega) (by omega) hV hz
  have hzb : 4503599627370496 < sqrtF m r e 2 ∧ sqrtF m r e 2 < 9200000000000000000 := by
    rw [hz]
    obtain ⟨b1, b2⟩ := mg0_bd hr0
    have hi : (mgInc r (decide (r * r ≠ m * 2 ^ k)) false true).toNat ≤ 1 := Bool.toNat_le _
    unfold magF fbits
    omega
  exact ⟨hzb.1, hzb.2, q1, q2⟩
end Go.Proofs.YtjbdadhggejoiaaGreatDoor

namespace Go.Proofs.YtjbdadhggejoiaaGreatDoor
open Go.RowKit
set_option maxRecDepth 100000
attribute [local go_sem] run_frombits run_bits store_f store_c run_neg

theorem prin_ex {f : Nat} (h0 : 0 < f) (h : f < 9218868437227405312) : ∃ z, Least f z ∧
    (∀ W : World, Tab W → Calls Tryz.prog 5 #[.complex .f64 f 0, .int .i64 2] W fun e w' => e = .returned (.tuple #[.complex .f64 z 0, .int .i64 0]) ∧ W.grownBy w' none) ∧
    (∀ W : World, Tab W → Calls Tryz.prog 5 #[.complex .f64 (f + 9223372036854775808) 0, .int .i64 2] W fun e w' => e = .returned (.tuple #[.complex .f64 0 z, .int .i64 0]) ∧ W.grownBy w' none) := by
  obtain ⟨r, hs, hl⟩ := least_ex h0 h
  have hp : PartIs f 0 2 (sqrtF (ofF f).m r (ofF f).e 2) := fun W hT => rpart_pos f 0 r 2 W h0 h rfl hs (by decide) hT
  have hn : PartIs (f + 9223372036854775808) 0 2 0 := fun W hT => rpart_neg _ 0 2 W (order_negz h0 h) rfl (by decide) hT
  have f0 : Fin64 0 := ⟨by decide, by decide⟩
  refine ⟨_, hl, fun W hT => ?_, fun W hT => ?_⟩
  · exact rprin_plus f 0 (f + 9223372036854775808) 2 _ 0 W (fin_of h).1 f0 rfl (by rw [order_posz h0 h]; rfl) (neg_eq (by omega)) (by decide) hp hn hT
  · exact rprin_plus (f + 9223372036854775808) 0 f 2 0 _ W (fin_neg h) f0 rfl (by rw [order_negz h0 h]; rfl) (neg_neg' (by omega)) (by decide) hn hp hT
theorem order_max_pos {f : Nat} (h : f < 9218868437227405312) : Ieee.double.order f 9218868437227405311 = some .lt ∨ Ieee.double.order f 9218868437227405311 = some .eq := by
  rw [order_pos h (by decide)]
  by_cases c : f < 9218868437227405311
  · exact .inl (by rw [if_pos c])
  · exact .inr (by rw [if_neg c, if_pos (by omega)])
/-- block B holds such a number -/
def BoxN (w : World) (B : Nat) (A : Option Addr) (L c : Nat) (e : Int) (b : Nat) (K : Int) (X : Nat) : Prop :=
  NNum w (.agg #[.bool false, .slice A L c, .int .i64 e]) b K X ∧ w.heap[B]? = some (.cells #[.bool false, .slice A L c, .int .i64 e] 30 (0, 0))
theorem BoxN.grown {w w' : World} {B : Nat} {A : Option Addr} {L c : Nat} {e : Int} {b : Nat} {K : Int} {X : Nat} (h : BoxN w B A L c e b K X) (hg : w.grownBy w' none) : BoxN w' B A L c e b K X :=
  ⟨h.1.grown hg, heap_grown h.2 hg⟩
theorem BoxN.new {w w' : World} {A : Option Addr} {L c : Nat} {e : Int} {b : Nat} {K : Int} {X : Nat} (h : NNum w (.agg #[.bool false, .slice A L c, .int .i64 e]) b K X) (hw : w' = w.alloc (.cells #[.bool false, .slice A L c, .int .i64 e] 30)) : BoxN w' w.heap.size A L c e b K X ∧ w.grownBy w' none := by
  subst hw
  exact ⟨⟨h.grown (grown_alloc _ _ _), heap_at rfl⟩, grown_alloc _ _ _⟩
theorem NNum.form {w : World} {v : Value} {b : Nat} {K : Int} {X : Nat} (h : NNum w v b K X) : ∃ A L c e, v = .agg #[.bool false, .slice A L c, .int .i64 e] := by
  obtain ⟨m, e, ⟨A, c, rfl, _⟩, _⟩ := h
  exact ⟨A, _, c, e, rfl⟩
set_option maxHeartbeats 4000000 in
theorem rootLeast_pos (f : Nat) (w : World) (h0 : 0 < f) (h : f < 9218868437227405312) (hT : Tab w) :
    Calls Tryz.prog 3 #[.float .f64 f] w fun e w' => e = .returned (.bool true) ∧ w.grownBy w' none := by
  obtain ⟨z, hl, hp1, hp2⟩ := prin_ex h0 h
  have g1 : (FloatKind.f64.format.order f 0 == some Ordering.gt) = true := by rw [dbl, order_posz h0 h]; rfl
  have hng : Op.negFloat .f64 f = f + 9223372036854775808 := neg_eq (by omega)
  have hmx := order_max_pos h
  have hzb : 0 < z ∧ z < 9218868437227405312 := ⟨by have := hl.lo; omega, by have := hl.hi; omega⟩
  have q0 : (FloatKind.f64.format.order 0 0 != some Ordering.eq) = false := rfl
  have qz : (FloatKind.f64.format.order z z != some Ordering.eq) = false := by rw [dbl, order_self (fin_of hzb.2).1]; rfl
  have qg : (FloatKind.f64.format.order z 0 == some Ordering.gt) = true := by rw [dbl, order_posz hzb.1 hzb.2]; rfl
  have HP1 := Lib.hid hp1; have HP2 := Lib.hid hp2; have HL := Lib.hid hl; have HT := Lib.hid hT; have HF := Lib.hid (⟨h0, h⟩ : 0 < f ∧ f < 9218868437227405312)
  have HZ := Lib.hid hzb
  have HMX := Lib.hid hmx
  clear hp1 hp2 hl hT h0 h hzb hmx
  go_enter Tryz.func3, Tryz.ntmps3
  go_upto_region 1 with fail
  go_cut [19] (fun v19 wx => v19 = .bool false ∧ w = wx)
  case first =>
    rcases HMX.out with e | e
    · have g2 : (FloatKind.f64.format.order f 9218868437227405311 == some Ordering.lt) = true := by rw [dbl, e]; rfl
      go_wp2
      go_meet
      exact ⟨rfl, rfl⟩
    · have g2 : (FloatKind.f64.format.order f 9218868437227405311 == some Ordering.lt) = false := by rw [dbl, e]; rfl
      have g3 : (FloatKind.f64.format.order f 9218868437227405311 == some Ordering.eq) = true := by rw [dbl, e]; rfl
      go_wp2
      go_meet
      exact ⟨rfl, rfl⟩
  case rest =>
    obtain ⟨rfl, rfl⟩ := hcut
    clear HMX g1
    go_wp2_with fail
    refine (HP1.out _ HT.out).mono ?_
    rintro e3 w1 ⟨rfl, hg⟩
    have HT1 := Lib.hid (HT.out.ext hg)
    have HG1 := Lib.hid hg
    clear hg
    go_wp2_with fail
    refine (HP2.out _ HT1.out).mono ?_
    rintro e3 w2 ⟨rfl, hg⟩
    have HT2 := Lib.hid (HT1.out.ext hg)
    have HG2 := Lib.hid (grown_trans HG1.out hg)
    clear hg
    go_wp2_with fail
    refine (nfloat_calls z _ HZ.out.1 HZ.out.2).mono ?_
    rintro e3 wa1 ⟨v0, rfl, hn, hg⟩
    obtain ⟨A1, L1, c1, x1, rfl⟩ := hn.form
    obtain ⟨wb1, hw⟩ : ∃ wb, wb = wa1.alloc (.cells #[.bool false, .slice A1 L1 c1, .int .i64 x1] 30) := ⟨_, rfl⟩
    obtain ⟨hb, hg2⟩ := BoxN.new hn hw
    obtain ⟨B1, hB⟩ : ∃ B, B = wa1.heap.size := ⟨_, rfl⟩
    rw [← hB] at hb
    have hg3 := grown_trans hg hg2
    have HB1 := Lib.hid hb
    have HT3 := Lib.hid (HT2.out.ext hg3)
    have HG3 := Lib.hid (grown_trans HG2.out hg3)
    go_upto_region 8 with fail
    rw [← hw, ← hB]
    clear hw hB hb hg hg2 hg3 hn
    go_wp2_with fail
    refine (inf_calls _).mono ?_
    rintro e3 wq ⟨rfl, rfl⟩
    go_wp2_with fail
    refine (next_up z _ HZ.out.1 HZ.out.2).mono ?_
    rintro e3 wq ⟨rfl, rfl⟩
    go_wp2_with fail
    refine (nfloat_calls (z + 1) _ (by omega) (by have := HL.out.hi; omega)).mono ?_
    rintro e3 wa2 ⟨v0, rfl, hn, hg⟩
    obtain ⟨A2, L2, c2, x2, rfl⟩ := hn.form
    obtain ⟨wb2, hw⟩ : ∃ wb, wb = wa2.alloc (.cells #[.bool false, .slice A2 L2 c2, .int .i64 x2] 30) := ⟨_, rfl⟩
    obtain ⟨hb, hg2⟩ := BoxN.new hn hw
    obtain ⟨B2, hB⟩ : ∃ B, B = wa2.heap.size := ⟨_, rfl⟩
    rw [← hB] at hb
    have hg3 := grown_trans hg hg2
    have HB1 := Lib.hid (HB1.out.grown hg3)
    have HB2 := Lib.hid hb
    have HT4 := Lib.hid (HT3.out.ext hg3)
    have HG4 := Lib.hid (grown_trans HG3.out hg3)
    go_upto_region 9 with fail
    rw [← hw, ← hB]
    clear hw hB hb hg hg2 hg3 hn
    go_wp2_with fail
    refine (next_zero z _ HZ.out.1 HZ.out.2).mono ?_
    rintro e3 wq ⟨rfl, rfl⟩
    go_wp2_with fail
    refine (nfloat_calls (z - 1) _ (by have := HL.out.lo; omega) (by have := HL.out.hi; omega)).mono ?_
    rintro e3 wa3 ⟨v0, rfl, hn, hg⟩
    obtain ⟨A3, L3, c3, x3, rfl⟩ := hn.form
    obtain ⟨wb3, hw⟩ : ∃ wb, wb = wa3.alloc (.cells #[.bool false, .slice A3 L3 c3, .int .i64 x3] 30) := ⟨_, rfl⟩
    obtain ⟨hb, hg2⟩ := BoxN.new hn hw
    obtain ⟨B3, hB⟩ : ∃ B, B = wa3.heap.size := ⟨_, rfl⟩
    rw [← hB] at hb
    have hg3 := grown_trans hg hg2
    have HB1 := Lib.hid (HB1.out.grown hg3)
    have HB2 := Lib.hid (HB2.out.grown hg3)
    have HB3 := Lib.hid hb
    have HT5 := Lib.hid (HT4.out.ext hg3)
    have HG5 := Lib.hid (grown_trans HG4.out hg3)
    go_upto_region 10 with fail
    rw [← hw, ← hB]
    clear hw hB hb hg hg2 hg3 hn
    go_wp2_with fail
    refine (nfloat_calls f _ HF.out.1 HF.out.2).mono ?_
    rintro e3 wa4 ⟨v0, rfl, hn, hg⟩
    obtain ⟨A4, L4, c4, x4, rfl⟩ := hn.form
    obtain ⟨wb4, hw⟩ : ∃ wb, wb = wa4.alloc (.cells #[.bool false, .slice A4 L4 c4, .int .i64 x4] 30) := ⟨_, rfl⟩
    obtain ⟨hb, hg2⟩ := BoxN.new hn hw
    obtain ⟨B4, hB⟩ : ∃ B, B = wa4.heap.size := ⟨_, rfl⟩
    rw [← hB] at hb
    have hg3 := grown_trans hg hg2
    have HB1 := Lib.hid (HB1.out.grown hg3)
    have HB2 := Lib.hid (HB2.out.grown hg3)
    have HB3 := Lib.hid (HB3.out.grown hg3)
    have HB4 := Lib.hid hb
    have HT6 := Lib.hid (HT5.out.ext hg3)
    have HG6 := Lib.hid (grown_trans HG5.out hg3)
    go_upto_region 11 with fail
    rw [← hw, ← hB]
    clear hw hB hb hg hg2 hg3 hn
    obtain ⟨y10, y11, y12⟩ := row3 HB1.out.2
    obtain ⟨y20, y21, y22⟩ := row3 HB2.out.2
    go_wp2_with fail
    refine (nplus_calls _ HB1.out.1 HB2.out.1 (by decide)).mono ?_
    rintro e3 wp5 ⟨v5, rfl, hn5, hg5⟩
    clear y10 y11 y12 y20 y21 y22
    go_wp2_with fail
    refine (nscaled_calls _ hn5 (by decide) rfl).mono ?_
    rintro e3 wa5 ⟨v0, rfl, hn, hg'⟩
    have hg := grown_trans hg5 hg'
    clear hg5 hg' hn5
    obtain ⟨A5, L5, c5, x5, rfl⟩ := hn.form
    obtain ⟨wb5, hw⟩ : ∃ wb, wb = wa5.alloc (.cells #[.bool false, .slice A5 L5 c5, .int .i64 x5] 30) := ⟨_, rfl⟩
    obtain ⟨hb, hg2⟩ := BoxN.new hn hw
    obtain ⟨B5, hB⟩ : ∃ B, B = wa5.heap.size := ⟨_, rfl⟩
    rw [← hB] at hb
    have hg3 := grown_trans hg hg2
    have HB1 := Lib.hid (HB1.out.grown hg3)
    have HB2 := Lib.hid (HB2.out.grown hg3)
    have HB3 := Lib.hid (HB3.out.grown hg3)
    have HB4 := Lib.hid (HB4.out.grown hg3)
    have HB5 := Lib.hid hb
    have HT7 := Lib.hid (HT6.out.ext hg3)
    have HG7 := Lib.hid (grown_trans HG6.out hg3)
    go_upto_region 12 with fail
    rw [← hw, ← hB]
    clear hw hB hb hg hg2 hg3 hn
    obtain ⟨y10, y11, y12⟩ := row3 HB1.out.2
    obtain ⟨y30, y31, y32⟩ := row3 HB3.out.2
    go_wp2_with fail
    refine (nplus_calls _ HB1.out.1 HB3.out.1 (by decide)).mono ?_
    rintro e3 wp6 ⟨v6, rfl, hn5, hg5⟩
    clear y10 y11 y12 y30 y31 y32
    go_wp2_with fail
    refine (nscaled_calls _ hn5 (by decide) rfl).mono ?_
    rintro e3 wa6 ⟨v0, rfl, hn, hg'⟩
    have hg := grown_trans hg5 hg'
    clear hg5 hg' hn5
    obtain ⟨A6, L6, c6, x6, rfl⟩ := hn.form
    obtain ⟨wb6, hw⟩ : ∃ wb, wb = wa6.alloc (.cells #[.bool false, .slice A6 L6 c6, .int .i64 x6] 30) := ⟨_, rfl⟩
    obtain ⟨hb, hg2⟩ := BoxN.new hn hw
    obtain ⟨B6, hB⟩ : ∃ B, B = wa6.heap.size := ⟨_, rfl⟩
    rw [← hB] at hb
    have hg3 := grown_trans hg hg2
    have HB1 := Lib.hid (HB1.out.grown hg3)
    have HB2 := Lib.hid (HB2.out.grown hg3)
    have HB3 := Lib.hid (HB3.out.grown hg3)
    have HB4 := Lib.hid (HB4.out.grown hg3)
    have HB5 := Lib.hid (HB5.out.grown hg3)
    have HB6 := Lib.hid hb
    have HT8 := Lib.hid (HT7.out.ext hg3)
    have HG8 := Lib.hid (grown_trans HG7.out hg3)
    go_upto_region 13 with fail
    rw [← hw, ← hB]
    clear hw hB hb hg hg2 hg3 hn
    clear HB1 HB2 HB3
    obtain ⟨l1, l2, l3, l4⟩ := HL.out
    obtain ⟨D, hD⟩ : ∃ D, D = mgF z + mgF (z - 1) := ⟨_, rfl⟩
    obtain ⟨U, hU⟩ : ∃ U, U = mgF z + mgF (z + 1) := ⟨_, rfl⟩
    rw [← hD] at HB6 l3
    rw [← hU] at HB5 l4
    have hv := (HB4.out.1.low (j := 1076) (K' := 2 * (-1074 - 1)) (by omega)).wide (b' := 4 * (4 * 1100 + 1 + 1)) (by decide)
    obtain ⟨V, hV⟩ : ∃ V, V = mgF f * 2 ^ 1076 := ⟨_, rfl⟩
    rw [← hV] at hv l3 l4
    obtain ⟨b0, hb0⟩ : ∃ b, b = 4 * 1100 + 1 + 1 := ⟨_, rfl⟩
    obtain ⟨b1, hb1⟩ : ∃ b, b = 4 * (4 * 1100 + 1 + 1) := ⟨_, rfl⟩
    have HTd := Lib.hid (fun W (h : wb6.grownBy W none) => ntimes_calls W (HB6.out.1.grown h) (HB6.out.1.grown h) (by decide) rfl)
    have HTu := Lib.hid (fun W (h : wb6.grownBy W none) => ntimes_calls W (HB5.out.1.grown h) (HB5.out.1.grown h) (by decide) rfl)
    have HO1 := Lib.hid (fun W u (h : wb6.grownBy W none) (hn : NNum W u _ _ (D * D)) => norder_calls W hn (hv.grown h) (by decide) l3)
    have HO2 := Lib.hid (fun W u (h : wb6.grownBy W none) (hn : NNum W u _ _ (U * U)) => norder_calls W (hv.grown h) hn (by decide) l4)
    have HWk := Lib.hid (fun W (h : wb6.grownBy W none) => works_calls W (HT8.out.ext h))
    rw [← hb1] at HTd HTu HO1 HO2
    obtain ⟨y40, y41, y42⟩ := row3 HB4.out.2
    obtain ⟨y50, y51, y52⟩ := row3 HB5.out.2
    obtain ⟨y60, y61, y62⟩ := row3 HB6.out.2
    have KK : Hid (∀ w' : World, wb6.grownBy w' none → w'.cell? ⟨B4, 0, none⟩ = some (.bool false) ∧ w'.cell? ⟨B4, 1, none⟩ = some (.slice A4 L4 c4) ∧ w'.cell? ⟨B4, 2, none⟩ = some (.int .i64 x4) ∧ w'.cell? ⟨B5, 0, none⟩ = some (.bool false) ∧ w'.cell? ⟨B5, 1, none⟩ = some (.slice A5 L5 c5) ∧ w'.cell? ⟨B5, 2, none⟩ = some (.int .i64 x5) ∧ w'.cell? ⟨B6, 0, none⟩ = some (.bool false) ∧ w'.cell? ⟨B6, 1, none⟩ = some (.slice A6 L6 c6) ∧ w'.cell? ⟨B6, 2, none⟩ = some (.int .i64 x6) ∧ wb6.grownBy w' none) := fun w' h => ⟨cell_ext h y40, cell_ext h y41, cell_ext h y42, cell_ext h y50, cell_ext h y51, cell_ext h y52, cell_ext h y60, cell_ext h y61, cell_ext h y62, h⟩
    clear hv hD hU hV hb0 hb1 l1 l2 l3 l4 HL HP1 HP2 HZ HF HB4 HB5 HB6
    go_region_held3 (fun w' : World => w'.cell? ⟨B4, 0, none⟩ = some (.bool false) ∧ w'.cell? ⟨B4, 1, none⟩ = some (.slice A4 L4 c4) ∧ w'.cell? ⟨B4, 2, none⟩ = some (.int .i64 x4) ∧ w'.cell? ⟨B5, 0, none⟩ = some (.bool false) ∧ w'.cell? ⟨B5, 1, none⟩ = some (.slice A5 L5 c5) ∧ w'.cell? ⟨B5, 2, none⟩ = some (.int .i64 x5) ∧ w'.cell? ⟨B6, 0, none⟩ = some (.bool false) ∧ w'.cell? ⟨B6, 1, none⟩ = some (.slice A6 L6 c6) ∧ w'.cell? ⟨B6, 2, none⟩ = some (.int .i64 x6) ∧ wb6.grownBy w' none)
      (first
        | with_reducible exact KK.out _ (drew_grown' _)
        | (go_split_ands; with_reducible exact KK.out _ (grown_trans (by assumption) hgl)))
      (first
        | (go_at_call_of 12 (Value.agg #[.bool false, .slice A6 L6 c6, .int .i64 x6]); go_split_ands; refine (HTd.out _ (by assumption)).mono ?_; rintro e1 wc5 ⟨v5, rfl, hn5, hgl⟩; have HN5 := Lib.hid hn5; clear hn5)
        | (go_at_call_of 12 (Value.agg #[.bool false, .slice A5 L5 c5, .int .i64 x5]); go_split_ands; refine (HTu.out _ (by assumption)).mono ?_; rintro e1 wc7 ⟨v7, rfl, hn7, hgl⟩; have HN7 := Lib.hid hn7; clear hn7)
        | (go_at_call_of 11 (Value.agg #[.bool false, .slice A4 L4 c4, .int .i64 x4]); go_split_ands; refine (HO2.out _ _ (by assumption) HN7.out).mono ?_; rintro e1 wc8 ⟨r8, rfl, hr8, hgl⟩)
        | (go_at_call 11; go_split_ands; refine (HO1.out _ _ (by assumption) HN5.out).mono ?_; rintro e1 wc6 ⟨r6, rfl, hr6, hgl⟩)
        | (go_at_call 4; go_split_ands; refine (HWk.out _ (by assumption)).mono ?_; rintro e1 wc9 ⟨rfl, hgl⟩; have hlast := grown_trans (show wb6.grownBy _ none by assumption) hgl))
    all_goals
      have HF := Lib.hid (grown_trans HG8.out hlast)
      go_wp2
      go_ret
      exact ⟨rfl, HF.out⟩
end Go.Proofs.YtjbdadhggejoiaaGreatDoor

namespace Go.Proofs.YtjbdadhggejoiaaGreatDoor
open Go.RowKit
set_option maxRecDepth 100000
attribute [local go_sem] run_frombits run_bits store_f store_c run_neg

/-- floats that the law asks -/
theorem asked {f : Nat} (hf : f < 18446744073709551616) (h1 : Ieee.double.order f 0 = some .gt) (h2 : Ieee.double.order f 9218868437227405311 = some .lt ∨ Ieee.double.order f 9218868437227405311 = some .eq) : 0 < f ∧ f < 9218868437227405312 := by
  have f0 : Fin64 0 := ⟨by decide, by decide⟩
  have fx : Fin64 9218868437227405311 := ⟨by decide, by decide⟩
  by_cases hF : Fin64 f
  · rcases Nat.lt_or_ge f 9223372036854775808 with h | h
    · have hlt : f < 9218868437227405312 := by have := hF.2; omega
      refine ⟨Nat.pos_of_ne_zero fun e => ?_, hlt⟩
      subst e
      rw [order_self f0] at h1
      cases h1
    · obtain ⟨g, rfl⟩ : ∃ g, f = g + 9223372036854775808 := ⟨f - 9223372036854775808, by omega⟩
      have hg : g < 9218868437227405312 := by have := hF.2; omega
      rcases Nat.eq_zero_or_pos g with e | e
      · subst e
        exact absurd h1 (by decide +kernel)
      · rw [order_negz e hg] at h1
        cases h1
  · exfalso
    have he : f / 4503599627370496 % 2048 = 2047 := by
      unfold Fin64 at hF
      omega
    by_cases hi : f = 9218868437227405312
    · subst hi
      rw [order_inf' fx] at h2
      rcases h2 with h2 | h2 <;> cases h2
    · by_cases hn : f = 18442240474082181120
      · subst hn
        rw [order_ninf' f0] at h1
        cases h1
      · have hr : Ieee.double.order f 0 = none := by
          have e1 : Ieee.double.signWeight = 9223372036854775808 := rfl
          have e2 : Ieee.double.binade = 4503599627370496 := rfl
          have e3 : Ieee.double.infRung = 9218868437227405312 := rfl
          have hn : ∃ b q, Ieee.double.read f = .nan b q := by
            unfold Ieee.Format.read
            simp only [e1, e2, e3]
            rw [if_neg (by omega), if_neg (by omega), if_neg (by omega)]
            exact ⟨_, _, rfl⟩
          obtain ⟨b, q, hq⟩ := hn
          unfold Ieee.Format.order
          rw [hq]
          rfl
        rw [hr] at h1
        cases h1
set_option maxHeartbeats 2000000 in
theorem rootLeast_calls (f : Nat) (hf : f < 18446744073709551616) (w : World) (hT : Tab w) :
    Calls Tryz.prog 3 #[.float .f64 f] w fun e w' => e = .returned (.bool true) ∧ w.grownBy w' none := by
  have hW := works_calls w hT
  by_cases h1 : Ieee.double.order f 0 = some .gt
  · by_cases h2 : Ieee.double.order f 9218868437227405311 = some .lt ∨ Ieee.double.order f 9218868437227405311 = some .eq
    · obtain ⟨a, b⟩ := asked hf h1 h2
      exact rootLeast_pos f w a b hT
    · have g1 : (FloatKind.f64.format.order f 0 == some Ordering.gt) = true := by rw [dbl, h1]; rfl
      have g2 : (FloatKind.f64.format.order f 9218868437227405311 == some Ordering.lt) = false := by rw [dbl, beq_eq_false_iff_ne]; exact fun e => h2 (.inl e)
      have g3 : (FloatKind.f64.format.order f 9218868437227405311 == some Ordering.eq) = false := by rw [dbl, beq_eq_false_iff_ne]; exact fun e => h2 (.inr e)
      have HW := Lib.hid hW
      clear hW h1 h2 hT hf
      go_enter Tryz.func3, Tryz.ntmps3
      go_wp2_with fail
      refine HW.out.mono ?_
      rintro e3 w1 ⟨rfl, hg⟩
      have HG := Lib.hid hg
      clear hg
      go_wp2
      go_ret
      exact ⟨rfl, HG.out⟩
  · have g1 : (FloatKind.f64.format.order f 0 == some Ordering.gt) = false := by rw [dbl, beq_eq_false_iff_ne]; exact h1
    have HW := Lib.hid hW
    clear hW h1 hT hf
    go_enter Tryz.func3, Tryz.ntmps3
    go_wp2_with fail
    refine HW.out.mono ?_
    rintro e3 w1 ⟨rfl, hg⟩
    have HG := Lib.hid hg
    clear hg
    go_wp2
    go_ret
    exact ⟨rfl, HG.out⟩
end Go.Proofs.YtjbdadhggejoiaaGreatDoor
