/- 'sure' answers true. -/
import Derived.Test.YtgambpcggengoaaGreatDoorBad
import Derived.Test.YtgambpcggengoaaGreatDoorBVal
import Derived.Test.YtgambpcggengoaaGreatDoorSame
namespace Go.Proofs.YtgambpcggengoaaGreatDoor
open Go.RowKit
set_option maxRecDepth 100000
attribute [local go_sem] run_frombits run_bits store_f store_c

theorem mrg_one : Cut.mrg [(11, 1)] [(11, 2)] = [(11, 3)] := by decide +kernel
theorem valid_one1 : Cut.validB [(11, 1)] = true := by decide +kernel
theorem valid_one2 : Cut.validB [(11, 2)] = true := by decide +kernel
theorem valid_one3 : Cut.validB [(11, 3)] = true := by decide +kernel
theorem valid_nil : validI [(0, 0)] = 1 := by decide +kernel
theorem cuts_one {w : World} {A : Addr} {B : Nat} {x y : Int} (hB : A.block < B) (h1 : w.cell? A = some (.int .i64 x)) (h2 : w.cell? (A.add 1) = some (.int .i64 y)) : Cuts w B (some A) [(x, y)] :=
  ⟨rfl, fun _ => ⟨A, rfl, hB, fun j u hu => by
    match j with
    | 0 => cases hu; exact h1
    | 1 => cases hu; exact h2
    | j + 2 => simp [cutCells] at hu⟩⟩

set_option maxHeartbeats 8000000 in
theorem sure_calls (w : World) : Calls Tryz.prog 10 #[] w fun e w' => e = .returned (.bool true) ∧ Below w.heap.size w w' := by
  go_enter Tryz.func10, Tryz.ntmps10
  go_wp2_with fail
  refine (merge_loop _ _ 1 1 [(11, 1)] [(11, 2)] _ (by simp) (by simp) (by simp) (by simp) (cuts_one (by simp; omega) (by simp [go_sem]) (by simp [go_sem, Addr.add])) (cuts_one (by simp) (by simp [go_sem]) (by simp [go_sem, Addr.add])) valid_one1 valid_one2 (by simp)).mono ?_
  rintro e w1 ⟨v, rfl, ho, hb1⟩
  rw [mrg_one] at ho
  obtain ⟨g, cap, rfl, hg1, hg2⟩ := ho.form (by simp)
  have hc : 1 ≤ cap := by
    rcases ho.2 with ⟨h, _⟩ | ⟨g', cap', cur, h, _, _, hcap, _⟩
    · cases h
    · cases h; exact hcap
  have HO := Lib.hid (Rds.own ho)
  clear ho
  have hb2 : Below w.heap.size w w1 := (((Below.refl _ _).alloc (Nat.le_refl _) _).alloc (by simp) _).trans (hb1.mono (by simp; omega))
  clear hb1
  go_wp2_with fail
  refine (side_log _).mono ?_
  rintro e w2 ⟨rfl, hb3⟩
  have HO2 : Hid (Cuts w2 w1.heap.size (some ⟨g, 0, none⟩) [(11, 3)]) := Rds.below HO.out hb3 (Nat.le_refl _)
  clear HO
  have hb4 := hb2.trans (hb3.mono hb2.size)
  have hz2 := hb3.size
  have hz3 := hb2.size
  clear hb2 hb3
  go_wp2_with fail
  refine (show_loop _ cap [(11, 3)] _ hc (by simp) (HO2.out.more hz2) valid_one3).mono ?_
  rintro e w3 ⟨rfl, hb5⟩
  have HO3 : Hid (Cuts w3 w1.heap.size (some ⟨g, 0, none⟩) [(11, 3)]) := Rds.below HO2.out hb5 hz2
  have hb6 := hb4.trans (hb5.mono hb4.size)
  have hz4 := hb6.size
  have hz6 := hb5.size
  clear HO2 hb5 hb4
  have hs : shB [(11, 3)] = ⟨#[108, 111, 103, 32, 98, 111, 116, 104]⟩ := by decide +kernel
  rw [hs]
  clear hs
  go_wp2_with fail
  have same3 : sameB [(11, 3)] [(11, 3)] = true := by decide +kernel
  have HA : Cuts (w3.alloc (.cells #[.int .i64 11, .int .i64 3] 39)) (w3.heap.size + 1) (some ⟨g, 0, none⟩) [(11, 3)] :=
    (Rds.below HO3.out ((Below.refl w3.heap.size _).alloc (Nat.le_refl _) _) (by omega)).more (by omega)
  refine (same_calls _ _ cap 1 [(11, 3)] [(11, 3)] _ (w3.heap.size + 1) (by simp) (by simp) HA (cuts_one (by simp) (by simp [go_sem]) (by simp [go_sem, Addr.add]))).mono ?_
  rintro e w4 ⟨rfl, n, rfl⟩
  rw [same3]
  clear same3 HA
  have hb7 : Below w.heap.size w ((w3.alloc (.cells #[.int .i64 11, .int .i64 3] 39)).drewN n) := (hb6.alloc hz4 _).trans ⟨rfl, rfl, rfl, Nat.le_refl _, fun _ _ => rfl⟩
  generalize ((w3.alloc (.cells #[.int .i64 11, .int .i64 3] 39)).drewN n) = w4 at hb7 ⊢
  clear hb6 HO3
  have hz5 := hb7.size
  go_wp2_with fail
  refine (valid_calls _ 1 [(0, 0)] _ (by simp) (by simp) (cuts_one (by simp) (by simp [go_sem]) (by simp [go_sem, Addr.add]))).mono ?_
  rintro e w5 ⟨rfl, hb8⟩
  rw [valid_nil]
  have hb9 := (hb7.alloc hz5 _).trans (hb8.mono (by simp; omega))
  clear hb7 hb8
  go_wp2
  go_ret
  exact ⟨rfl, hb9⟩
end Go.Proofs.YtgambpcggengoaaGreatDoor
