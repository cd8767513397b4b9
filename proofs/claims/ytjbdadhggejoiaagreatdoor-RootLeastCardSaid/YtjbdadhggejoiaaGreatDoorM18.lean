/- 'dyad': Shift. -/
import Derived.Test.YtjbdadhggejoiaaGreatDoorM17
import Derived.Deep.DeepCutAuto
import Derived.Deep.CutBlock

namespace Go.Proofs.YtjbdadhggejoiaaGreatDoor
open Go.RowKit
set_option maxRecDepth 100000

def dshift (a : Dy) (k : Int) : Dy := if a.m = 0 then ⟨false, 0, 0⟩ else ⟨a.neg, a.m, a.e + k⟩
theorem three_at {w : World} {k : Nat} {x : Bool} {A : Option Addr} {n c : Nat} {e : Int} {t : TypeId} (h : w.heap.size = k) : Three (w.alloc (.cells #[.bool x, .slice A n c, .int .i64 e] t)) k := ⟨x, A, n, c, e, t, heap_at h⟩
theorem own_made' {w : World} {B X : Nat} {e : TypeId} (h : w.heap.size = X) (hB : B ≤ X) : (w.alloc (.cells #[] e)).ownsRow B e 1 (.slice (some ⟨X, 0, none⟩) 0 0) 0 [] := by
  subst h
  exact World.ownsRow_made w #[] 0 hB (Nat.zero_le _) rfl
theorem Three.put {w : World} {b : Nat} (h : Three w b) (x : Bool) (A : Option Addr) (n c : Nat) (e : Int) :
    ∃ t, (((w.setCell ⟨b, 0, none⟩ (.bool x)).setCell ⟨b, 1, none⟩ (.slice A n c)).setCell ⟨b, 2, none⟩ (.int .i64 e)).heap[b]? = some (.cells #[.bool x, .slice A n c, .int .i64 e] t (0, 0)) := by
  obtain ⟨x0, A0, n0, c0, e0, t, h⟩ := h
  have h1 := heap_setCell_same w b 0 _ t (.bool x) h
  have h2 := heap_setCell_same _ b 1 _ t (.slice A n c) h1
  exact ⟨t, heap_setCell_same _ b 2 _ t (.int .i64 e) h2⟩
theorem Three.drew {w : World} {b : Nat} (h : Three w b) : Three w.drew b := h

set_option maxHeartbeats 4000000 in
theorem dshift_calls (v : Value) (a : Dy) (k : Int) (w : World) (hv : DR w v a) (ho : a.ok) (hk : (dshift a k).ok) :
    Calls Tryz.prog 90 #[v, .int .i64 k] w fun en w' => DDone w (dshift a k) en w' := by
  have hV := fun o o2 => dvalid_calls v a.neg a.m a.e ((w.alloc o).alloc o2) ((NR.grown0 hv (grown_alloc _ _ _)).grown0 (grown_alloc _ _ _)) ho
  obtain ⟨A, c, rfl, hc, hcm, hW⟩ := hv
  have hN1 : NR w (NV a.neg A (words a.m).length c a.e) a.neg a.m a.e := ⟨A, c, rfl, hc, hcm, hW⟩
  unfold NV at hV ⊢
  have hz := lenZ a.m
  have hla := ho.len
  obtain ⟨L, hL⟩ : ∃ L, L = (words a.m).length := ⟨_, rfl⟩
  simp only [← hL] at hV hz hc ⊢
  have HL := Lib.hid hL
  have HV := Lib.hid hV
  clear hV hL
  unfold dshift
  by_cases hm : a.m = 0
  · rw [if_pos hm]
    rw [decide_eq_true hm] at hz
    clear hW hN1 hm
    go_enter Tryz.func90, Tryz.ntmps90
    go_wp2_with fail
    refine (HV.out _ _).mono ?_
    rintro e1 w1 ⟨rfl, hg⟩
    obtain ⟨r0, r1, hw1, hsz⟩ := box2 hg
    obtain ⟨x0, x1, x2⟩ := row3 r0
    obtain ⟨x3, x4, x5⟩ := row3 r1
    obtain ⟨y3, y4, y5⟩ := froz3 r1
    have T1 : Hid (Three w1 (w.heap.size + 1)) := ⟨_, _, _, _, _, _, r1⟩
    have HW1 := Lib.hid hw1
    clear hg r0 r1 hw1
    go_wp2
    refine bodyPost_ret (v := .tuple #[.agg #[.bool false, .slice none 0 0, .int .i64 0], .int .i64 0]) ?_ rfl (NumDone.store (neg := false) (m := 0) (e := 0) (w5 := w1) T1.out (Nat.le_refl _) (by decide) Ws.nil (below_of_grown0 HW1.out) (by omega))
    simp [results, Tryz.results90, go_sem, *]
  · rw [if_neg hm]
    rw [decide_eq_false hm] at hz
    have he : -65536 ≤ a.e ∧ a.e ≤ 65536 := by
      rcases ho with ⟨h, _⟩ | ⟨_, _, h1, h2⟩
      · exact absurd h hm
      · exact ⟨h1, h2⟩
    have hkk : -65536 ≤ a.e + k ∧ a.e + k ≤ 65536 := by
      unfold dshift at hk
      rw [if_neg hm] at hk
      rcases hk with ⟨h, _⟩ | ⟨_, _, h1, h2⟩
      · exact absurd h hm
      · exact ⟨h1, h2⟩
    have t1 : ¬ (65536 - a.e < k) := by omega
    have t2 : ¬ (k < -65536 - a.e) := by omega
    have hwr : IntKind.i64.wrap (a.e + k) = a.e + k := wrap_in (by omega) (by omega)
    have hLp : 0 < L := by
      rw [HL.out]
      have := lenZ a.m
      rw [decide_eq_false hm, beq_eq_false_iff_ne] at this
      omega
    have HW := Lib.hid hW
    have HN := Lib.hid hN1
    obtain ⟨i0, hi0, hz0, hz1, hz2⟩ := info_parts wordInfo
    clear hW hN1 hm hla
    go_enter Tryz.func90, Tryz.ntmps90
    go_wp2_with fail
    refine (HV.out _ _).mono ?_
    rintro e1 w1 ⟨rfl, hg⟩
    obtain ⟨r0, r1, hw1, hsz⟩ := box2 hg
    obtain ⟨x0, x1, x2⟩ := row3 r0
    have T1 : Hid (Three w1 (w.heap.size + 1)) := ⟨_, _, _, _, _, _, r1⟩
    have HW1 := Lib.hid hw1
    clear hg r0 r1 hw1
    obtain ⟨ad, hA, _, _⟩ := HW.out.at_ 0 (by rw [← HL.out]; exact hLp)
    subst hA
    have hcl : ∀ (j : Nat) (u : Value), (uCells (words a.m))[j]? = some u → w1.cell? (ad.add j) = some u := fun j u hu => by
      obtain ⟨A', c', hv', _, _, hW'⟩ := HN.out.grown0 HW1.out
      unfold NV at hv'
      simp only [Value.agg.injEq] at hv'
      obtain ⟨ad2, e2, _, hc2⟩ := hW'.2 (by rw [← HL.out]; exact hLp)
      simp at hv'
      rw [← hv'.1] at e2
      injection e2 with e2
      subst e2
      exact hc2 j u hu
    have HC := Lib.hid hcl
    clear hcl
    have K6 : Hid (∀ w' : World, w1.grownBy w' (some (w.heap.size + 1)) → Three w' (w.heap.size + 1) → w'.cell? ⟨w.heap.size, 0, none⟩ = some (.bool a.neg) ∧ w'.cell? ⟨w.heap.size, 1, none⟩ = some (.slice (some ad) L c) ∧ w'.cell? ⟨w.heap.size, 2, none⟩ = some (.int .i64 a.e) ∧
        w1.grownBy w' (some (w.heap.size + 1)) ∧ Three w' (w.heap.size + 1)) := fun w' h h3 =>
      ⟨cell_grown h (by omega) (by omega) x0, cell_grown h (by omega) (by omega) x1, cell_grown h (by omega) (by omega) x2, h, h3⟩
    have G0 : Hid (w1.grownBy w1.drew (some (w.heap.size + 1))) := ⟨rfl, rfl, rfl, Nat.le_refl _, fun _ _ _ => rfl⟩
    have hrlt : w.heap.size + 1 < w1.heap.size := by omega
    have huc : (uCells (words a.m)).length = L * 1 := by rw [uCells_len, ← HL.out, Nat.mul_one]
    have HUC := Lib.hid huc
    have hLb : L ≤ 2048 := by rw [HL.out]; exact ho.len
    clear huc
    go_upto_region 7 with fail
    go_cut [6] (fun v6 wx => ∃ Y gg cap : Nat, v6 = .pointer (some ⟨Y, 0, none⟩) ∧ w1.heap.size ≤ Y ∧ Hid (wx.cell? ⟨Y, 0, none⟩ = some (.bool a.neg) ∧ wx.cell? ⟨Y, 1, none⟩ = some (.slice (some ⟨gg, 0, none⟩) L cap) ∧ wx.cell? ⟨Y, 2, none⟩ = some (.int .i64 (a.e + k))) ∧ L ≤ cap ∧ cap ≤ maxLen ∧ Hid (Ws wx wx.heap.size (some ⟨gg, 0, none⟩) (words a.m)) ∧ Hid (w1.grownBy wx (some (w.heap.size + 1)) ∧ Three wx (w.heap.size + 1)))
    case first =>
      go_region_held3 (fun w' : World => w'.cell? ⟨w.heap.size, 0, none⟩ = some (.bool a.neg) ∧ w'.cell? ⟨w.heap.size, 1, none⟩ = some (.slice (some ad) L c) ∧ w'.cell? ⟨w.heap.size, 2, none⟩ = some (.int .i64 a.e) ∧ w1.grownBy w' (some (w.heap.size + 1)) ∧ Three w' (w.heap.size + 1))
        (first
          | exact K6.out _ G0.out T1.out
          | (exact K6.out _ hG5 hT5)
          | exact K6.out _ (grown_skip hG5 (hTY.set _ _ _ _ _).2 (by omega)) (Three.grown hT5 (hTY.set _ _ _ _ _).2 (by intro e; injection e with e; omega))
          | exact K6.out _ (grown_trans hG5 (grown_alloc _ _ _)) (hT5.grown (grown_alloc _ _ none) (by simp))
          | (go_split_ands; exact K6.out _ (grown_trans (by assumption) (grown_alloc _ _ _)) (Three.grown (by assumption) (grown_alloc _ _ none) (by simp))))
        (((first
            | refine step_append_lies _ (by rfl) (.tmp 34) (.tmp 36) 28 (by rfl) w1.heap.size 51 i0 _ 1 4 Tryz.underlying28 hi0 hz0 hz1 hz2 rfl (by omega) _ 0 [] (by rfl) (World.ownsRow_made w1 #[] 0 (Nat.le_refl _) (Nat.zero_le _) rfl) ad L c (uCells (words a.m)) (by rfl) HUC.out (fun j u h => cell_alloc (HC.out j u h) (.cells #[] 51)) (u_all _) hLp (by simp only [maxLen]; omega) (by omega) (by rw [size_ad]; omega) (w1.heap.size + 1) (by rw [size_ad]) ?_
            | refine step_append_lies _ (by rfl) (.tmp 34) (.tmp 36) 28 (by rfl) w1.heap.size 51 i0 _ 1 4 Tryz.underlying28 hi0 hz0 hz1 hz2 rfl (by omega) _ 0 [] (by rfl) ((World.ownsRow_made w1 #[] 0 (Nat.le_refl _) (Nat.zero_le _) rfl).alloc _) ad L c (uCells (words a.m)) (by rfl) HUC.out (fun j u h => cell_alloc (cell_alloc (HC.out j u h) (.cells #[] 51)) _) (u_all _) hLp (by simp only [maxLen]; omega) (by omega) (by rw [size_ad, World.size_alloc]; omega) (w1.heap.size + 1 + 1) (by rw [size_ad, World.size_alloc]) ?_
            | refine step_append_lies _ (by rfl) (.tmp 34) (.tmp 36) 28 (by rfl) w1.heap.size 51 i0 _ 1 4 Tryz.underlying28 hi0 hz0 hz1 hz2 rfl (by omega) _ 0 [] (by rfl) (own_made' (w := w1.alloc _) (X := w1.heap.size + 1) (World.size_alloc _ _) (by omega)) ad L c (uCells (words a.m)) (by rfl) HUC.out (fun j u h => cell_alloc (cell_alloc (HC.out j u h) _) (.cells #[] 51)) (u_all _) hLp (by simp only [maxLen]; omega) (by omega) (by rw [size_ad, World.size_alloc]; omega) (w1.heap.size + 1 + 1) (by rw [size_ad, World.size_alloc]) ?_);
          intro gg cap w3 hown1 hgrow hat hlt; go_split_ands;
          have hG5 : w1.grownBy w3 (some (w.heap.size + 1)) := (by first | exact grown_skip (x := w1.heap.size) (by assumption) hgrow (Nat.le_refl _) | exact grown_skip (x := w1.heap.size + 1) (by assumption) hgrow (by omega));
          have hT5 := Three.grown (b := w.heap.size + 1) (by assumption) hgrow (by simp only [Value.ownBlock, ne_eq, Option.some.injEq]; omega);
          (first
            | (have hTY := Three.grown (b := w1.heap.size + 1) (three_at (w := w1.alloc (.cells #[] 51)) (by simp)).drew hgrow (by simp only [Value.ownBlock, ne_eq, Option.some.injEq]; omega); obtain ⟨p1, p2, p3, p4, p5, z0, z1, z2, z3, z4, z5⟩ := hTY.open)
            | (have hTY := Three.grown (b := w1.heap.size) (((three_at (w := w1) rfl).grown (grown_alloc _ (.cells #[] 51) none) (by simp)).drew) hgrow (by simp only [Value.ownBlock, ne_eq, Option.some.injEq]; omega); obtain ⟨p1, p2, p3, p4, p5, z0, z1, z2, z3, z4, z5⟩ := hTY.open)
            | skip)))
      all_goals
        go_wp2
        go_meet
        obtain ⟨Y0, cy, hYe, hcy, hcmy, hY⟩ := own_slice1 hown1
        obtain ⟨rfl, rfl⟩ : Y0 = some ⟨gg, 0, none⟩ ∧ cap = cy := by
          injection hYe with h1 h2 h3
          exact ⟨h1.symm, h3⟩
        have hY2 : Ws w3 w3.heap.size (some ⟨gg, 0, none⟩) (words a.m) := by
          unfold Ws
          rw [← HL.out]
          simpa using hY
        have hs3 := hG5.size
        first
          | exact ⟨w3.heap.size, gg, cap, rfl, hs3, row3 (heap_at rfl), by omega, hcmy, hY2.alloc' (Nat.le_refl _) _, grown_trans hG5 (grown_alloc _ _ _), hT5.grown (grown_alloc _ _ none) (by simp)⟩
          | exact ⟨w1.heap.size + 1, gg, cap, rfl, by omega, (by obtain ⟨t, h⟩ := hTY.put a.neg (some ⟨gg, 0, none⟩) L cap (a.e + k); exact row3 h), by omega, hcmy, (show Ws _ w3.heap.size _ _ from hY2.set3 hTY _ _ _ _ _).more (by simp), grown_skip hG5 (hTY.set _ _ _ _ _).2 (by omega), Three.grown hT5 (hTY.set _ _ _ _ _).2 (by intro e; injection e with e; omega)⟩
          | exact ⟨w1.heap.size, gg, cap, rfl, by omega, (by obtain ⟨t, h⟩ := hTY.put a.neg (some ⟨gg, 0, none⟩) L cap (a.e + k); exact row3 h), by omega, hcmy, (show Ws _ w3.heap.size _ _ from hY2.set3 hTY _ _ _ _ _).more (by simp), grown_skip hG5 (hTY.set _ _ _ _ _).2 (by omega), Three.grown hT5 (hTY.set _ _ _ _ _).2 (by intro e; injection e with e; omega)⟩
    case rest =>
      obtain ⟨Y, gg, cap, rfl, hYl, hYc, hcap, hcm5, hW5, hG5, hT5⟩ := hcut
      obtain ⟨p1, p2, p3⟩ := hYc.out
      obtain ⟨q1, q2, q3, q4, q5, y0, y1, y2, y3, y4, y5⟩ := hT5.open
      have HB5 : Hid (Below w.heap.size w wc) := (below_of_grown0 HW1.out).trans (below_of_grown hG5 (by omega) hrlt)
      have hD := NumDone.store (w := w) (neg := a.neg) (m := a.m) (e := a.e + k) hT5 (A := some ⟨gg, 0, none⟩) (c := cap) (by rw [← HL.out]; exact hcap) hcm5 hW5.out HB5.out (by omega : w.heap.size ≤ w.heap.size + 1)
      have hD2 : DDone w ⟨a.neg, a.m, a.e + k⟩ (.returned (.tuple #[.agg #[.bool a.neg, .slice (some ⟨gg, 0, none⟩) L cap, .int .i64 (a.e + k)], .int .i64 0])) (((wc.setCell ⟨w.heap.size + 1, 0, none⟩ (.bool a.neg)).setCell ⟨w.heap.size + 1, 1, none⟩ (.slice (some ⟨gg, 0, none⟩) L cap)).setCell ⟨w.heap.size + 1, 2, none⟩ (.int .i64 (a.e + k))) := by
        have := hD
        simp only [← HL.out] at this
        exact this
      have HD := Lib.hid hD2
      clear hD hD2
      go_wp2
      refine bodyPost_ret (v := .tuple #[.agg #[.bool a.neg, .slice (some ⟨gg, 0, none⟩) L cap, .int .i64 (a.e + k)], .int .i64 0]) ?_ rfl HD.out
      simp [results, Tryz.results90, go_sem, *]
end Go.Proofs.YtjbdadhggejoiaaGreatDoor
