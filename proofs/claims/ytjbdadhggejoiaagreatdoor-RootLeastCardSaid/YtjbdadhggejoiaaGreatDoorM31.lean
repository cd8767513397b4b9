/- the law's head: works. -/
import Derived.Test.YtjbdadhggejoiaaGreatDoorM30

namespace Go.Proofs.YtjbdadhggejoiaaGreatDoor
open Go.RowKit
set_option maxRecDepth 100000
attribute [local go_sem] run_frombits run_bits store_f store_c run_neg

set_option maxHeartbeats 4000000 in
theorem works_calls (w : World) (hT : Tab w) : Calls Tryz.prog 4 #[] w fun e w' => e = .returned (.bool true) ∧ w.grownBy w' none := by
  have H0 := Lib.hid (fun W => sign_calls 0 W (by decide))
  have H1 := Lib.hid (fun W (h : Tab W) => prin_m4 W h)
  have H2 := Lib.hid (fun W (h : Tab W) => prin_34 W h)
  have HO := Lib.hid (fun W x y r => lof_calls x y r W)
  have H3 := Lib.hid (fun W (h : Tab W) => bsqrt_m1 W h)
  have H4 := Lib.hid (fun W (h : Tab W) => bsqrt_4 W h)
  have H5 := Lib.hid (fun W => bsqrt_bad W)
  have hs := fun W => lsame_calls 0 4607182418800017408 0 0 4607182418800017408 0 W rfl rfl rfl
  rw [show sameB 0 4607182418800017408 0 0 4607182418800017408 0 = true from rfl] at hs
  have HS := Lib.hid hs
  have hc1 : ∀ W : World, (binOp .eql 24 (.complex .f64 0 13835058055282163712) (.complex .f64 0 13835058055282163712)).run Tryz.prog W = .ok (.bool true) W := fun _ => by kernel_rfl
  have hc2 : ∀ W : World, (binOp .eql 24 (.complex .f64 4611686018427387904 4607182418800017408) (.complex .f64 4611686018427387904 4607182418800017408)).run Tryz.prog W = .ok (.bool true) W := fun _ => by kernel_rfl
  have hc3 : ∀ W : World, (binOp .eql 24 (.complex .f64 4611686018427387904 0) (.complex .f64 4611686018427387904 0)).run Tryz.prog W = .ok (.bool true) W := fun _ => by kernel_rfl
  have hc4 : ∀ W : World, (binOp .gtr 22 (.float .f64 4598498563450654039) (.float .f64 4598497677278596144)).run Tryz.prog W = .ok (.bool true) W := fun _ => by kernel_rfl
  have hc5 : ∀ W : World, (binOp .lss 22 (.float .f64 4598498563450654039) (.float .f64 4598499478718447092)).run Tryz.prog W = .ok (.bool true) W := fun _ => by kernel_rfl
  have g4 : (FloatKind.f64.format.order 4598498563450654039 4598497677278596144 == some Ordering.gt) = true := by rw [dbl, order_pos (by decide) (by decide)]; rfl
  have g5 : (FloatKind.f64.format.order 4598498563450654039 4598499478718447092 == some Ordering.lt) = true := by rw [dbl, order_pos (by decide) (by decide)]; rfl
  have HT := Lib.hid hT
  clear hs hT
  unfold BV at *
  go_enter Tryz.func4, Tryz.ntmps4
  go_wp2_with fail
  refine (H0.out _).mono ?_
  rintro e3 w0 ⟨rfl, rfl⟩
  go_wp2_with fail
  refine (H1.out _ HT.out).mono ?_
  rintro e3 w1 ⟨rfl, hg⟩
  have HT1 := Lib.hid (HT.out.ext hg)
  have HG1 := Lib.hid hg
  clear hg
  go_wp2_with fail
  refine (H2.out _ HT1.out).mono ?_
  rintro e3 w2 ⟨rfl, hg⟩
  have HT2 := Lib.hid (HT1.out.ext hg)
  have HG2 := Lib.hid (grown_trans HG1.out hg)
  clear hg
  go_wp2_with fail
  refine (HO.out _ _ _ _).mono ?_
  rintro e3 w3 ⟨rfl, hg⟩
  have HT3 := Lib.hid (HT2.out.ext hg)
  have HG3 := Lib.hid (grown_trans HG2.out hg)
  clear hg
  go_wp2_with fail
  refine (H3.out _ HT3.out).mono ?_
  rintro e3 w4 ⟨rfl, hg⟩
  obtain ⟨w5, hw5⟩ : ∃ w5, w5 = w4.alloc (.cells #[.complex .f64 0 4607182418800017408, .float .f64 0] 39) := ⟨_, rfl⟩
  have hg5 : w4.grownBy w5 none := by rw [hw5]; exact grown_alloc _ _ _
  have ra : w5.heap[w4.heap.size]? = some (.cells #[.complex .f64 0 4607182418800017408, .float .f64 0] 39 (0, 0)) := by rw [hw5]; exact heap_alloc_new w4 _
  have HT5 := Lib.hid (HT3.out.ext (grown_trans hg hg5))
  have HG5 := Lib.hid (grown_trans HG3.out (grown_trans hg hg5))
  have HRa := Lib.hid ra
  have HW5 := Lib.hid hw5
  clear hg hw5 hg5 ra
  go_upto_region 5 with fail
  rw [← HW5.out]
  clear HW5
  go_wp2_with fail
  refine (HO.out _ _ _ _).mono ?_
  rintro e3 w6 ⟨rfl, hg⟩
  have HT6 := Lib.hid (HT5.out.ext hg)
  have HG56 := Lib.hid hg
  clear hg
  go_wp2_with fail
  refine (H4.out _ HT6.out).mono ?_
  rintro e3 w7 ⟨rfl, hg⟩
  obtain ⟨w8, hw8⟩ : ∃ w8, w8 = w7.alloc (.cells #[.complex .f64 4611686018427387904 0, .float .f64 4598498563450654039] 39) := ⟨_, rfl⟩
  have hg8 : w7.grownBy w8 none := by rw [hw8]; exact grown_alloc _ _ _
  have rb : w8.heap[w7.heap.size]? = some (.cells #[.complex .f64 4611686018427387904 0, .float .f64 4598498563450654039] 39 (0, 0)) := by rw [hw8]; exact heap_alloc_new w7 _
  have HG58 := Lib.hid (grown_trans HG56.out (grown_trans hg hg8))
  have HRb := Lib.hid rb
  have HW8 := Lib.hid hw8
  clear hg hw8 hg8 rb
  go_upto_region 6 with fail
  rw [← HW8.out]
  clear HW8
  go_wp2_with fail
  refine (HO.out _ _ _ _).mono ?_
  rintro e3 wA ⟨rfl, hgA⟩
  go_wp2_with fail
  refine (H5.out _).mono ?_
  rintro e3 wB ⟨rfl, hgB⟩
  obtain ⟨w9, hw9⟩ : ∃ w9, w9 = wB.alloc (.cells #[.complex .f64 0 0, .float .f64 0] 39) := ⟨_, rfl⟩
  have hg9 : wB.grownBy w9 none := by rw [hw9]; exact grown_alloc _ _ _
  have hg89 := grown_trans hgA (grown_trans hgB hg9)
  have HG9 := Lib.hid (grown_trans HG5.out (grown_trans HG58.out hg89))
  have ha := heap_grown HRa.out (grown_trans HG58.out hg89)
  have hb := heap_grown HRb.out hg89
  obtain ⟨Ba, hBa⟩ : ∃ B, B = w4.heap.size := ⟨_, rfl⟩
  obtain ⟨Bb, hBb⟩ : ∃ B, B = w7.heap.size := ⟨_, rfl⟩
  rw [← hBa] at ha
  rw [← hBb] at hb
  have KS : Hid (∀ w' : World, w9.grownBy w' none → w'.cell? ⟨Ba, 0, none⟩ = some (.complex .f64 0 4607182418800017408) ∧ w'.cell? ⟨Ba, 1, none⟩ = some (.float .f64 0) ∧ w'.cell? ⟨Bb, 0, none⟩ = some (.complex .f64 4611686018427387904 0) ∧ w'.cell? ⟨Bb, 1, none⟩ = some (.float .f64 4598498563450654039) ∧ w9.grownBy w' none) := fun w' h => by
    obtain ⟨a, b⟩ := row2 (heap_grown ha h)
    obtain ⟨c, d⟩ := row2 (heap_grown hb h)
    exact ⟨a, b, c, d, h⟩
  have HW9 := Lib.hid hw9
  have HBB := Lib.hid (And.intro hBa hBb)
  clear hgA hgB hw9 hg9 hg89 ha hb hBa hBb
  go_upto_region 7 with fail
  rw [← HW9.out, ← HBB.out.1, ← HBB.out.2]
  clear HW9 HBB
  go_region_held3 (fun w' : World => w'.cell? ⟨Ba, 0, none⟩ = some (.complex .f64 0 4607182418800017408) ∧ w'.cell? ⟨Ba, 1, none⟩ = some (.float .f64 0) ∧ w'.cell? ⟨Bb, 0, none⟩ = some (.complex .f64 4611686018427387904 0) ∧ w'.cell? ⟨Bb, 1, none⟩ = some (.float .f64 4598498563450654039) ∧ w9.grownBy w' none)
    (first
      | with_reducible exact KS.out _ hGs
      | with_reducible exact KS.out _ hGo
      | with_reducible exact KS.out _ (drew_grown' _))
    (first
      | (go_at_call 15; go_split_ands; refine (HO.out _ _ _ _).mono ?_; rintro e3 wo ⟨rfl, hgo⟩; have hGo := grown_trans (show w9.grownBy _ none by assumption) hgo; clear hgo)
      | (go_at_call 16; go_split_ands; refine (HS.out _).mono ?_; rintro e3 ws ⟨rfl, hgs⟩; have hGs := grown_trans (show w9.grownBy _ none by assumption) hgs; clear hgs))
  all_goals
    have HF := Lib.hid (grown_trans HG9.out hGs)
    go_wp2
    go_ret
    exact ⟨rfl, HF.out⟩
end Go.Proofs.YtjbdadhggejoiaaGreatDoor
