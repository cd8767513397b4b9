/- 'CutsMerges' answers true. -/
import Derived.Test.YtgambpcggengoaaDoorSure
import Derived.Test.YtgambpcggengoaaDoorAll
namespace Go.Proofs.YtgambpcggengoaaDoor
open Go.RowKit
set_option maxRecDepth 100000
attribute [local go_sem] run_frombits run_bits store_f store_c

set_option maxHeartbeats 8000000 in
theorem law_calls (A B : Option Addr) (ca cb : Nat) (a b : List (Int × Int)) (w : World) (hla : a.length ≤ ca) (hlb : b.length ≤ cb) (hca : a.length * 16 ≤ 140737488351232) (hcb : b.length * 16 ≤ 140737488351232)
    (hA : A = none → ca = 0) (hB : B = none → cb = 0) (ha : Cuts w w.heap.size A a) (hb : Cuts w w.heap.size B b) :
    Calls Tryd.prog 3 #[.slice A a.length ca, .slice B b.length cb] w fun e w' => e = .returned (.bool true) ∧ Below w.heap.size w w' := by
  have HA := Lib.hid ha; have HB := Lib.hid hb
  clear ha hb
  go_enter Tryd.func3, Tryd.ntmps3
  go_wp2_with fail
  refine (twin_calls A ca a _ hca HA.out hA).mono ?_
  rintro e w1 ⟨v, rfl, ho1, hb1⟩
  obtain ⟨X, cx, rfl, hcx, _, hX⟩ := own_slice ho1
  have HX : Hid (Cuts w1 w1.heap.size X a) := hX
  have hz1 := hb1.size
  clear ho1 hX
  go_wp2_with fail
  refine (twin_calls B cb b _ hcb ((HB.out.below hb1 (Nat.le_refl _)).more hz1) hB).mono ?_
  rintro e w2 ⟨u, rfl, ho2, hb2⟩
  obtain ⟨Y, cy, rfl, hcy, _, hY⟩ := own_slice ho2
  have hz2 := hb2.size
  have HX2 : Hid (Cuts w2 w2.heap.size X a) := (HX.out.below hb2 (Nat.le_refl _)).more hz2
  have HY2 : Hid (Cuts w2 w2.heap.size Y b) := hY
  have hb3 := hb1.trans (hb2.mono hz1)
  have hz3 := hb3.size
  clear ho2 hY HX hb1 hb2
  go_wp2_with fail
  refine (merge_all X Y cx cy a b _ hcx hcy (by omega) (by omega) HX2.out HY2.out).mono ?_
  rintro e w3 ⟨Z, cz, rfl, hcz, hZ, hb4⟩
  have hz4 := hb4.size
  have HX3 : Hid (Cuts w3 w2.heap.size X a) := HX2.out.below hb4 (Nat.le_refl _)
  have HY3 : Hid (Cuts w3 w2.heap.size Y b) := HY2.out.below hb4 (Nat.le_refl _)
  have HZ3 : Hid (Cuts w3 w3.heap.size Z (mres a b)) := hZ
  have hb5 := hb3.trans (hb4.mono hz3)
  have hz5 := hb5.size
  clear HX2 HY2 hZ hb3 hb4
  go_wp2_with fail
  refine (rmerge_all A B ca cb a b _ hla hlb (by omega) (by omega) ((HA.out.below hb5 (Nat.le_refl _)).more hz5) ((HB.out.below hb5 (Nat.le_refl _)).more hz5)).mono ?_
  rintro e w4 ⟨T, ct, rfl, hct, hT, hb6⟩
  have hz6 := hb6.size
  have HX4 : Hid (Cuts w4 w4.heap.size X a) := (HX3.out.below hb6 (by omega)).more (by omega)
  have HY4 : Hid (Cuts w4 w4.heap.size Y b) := (HY3.out.below hb6 (by omega)).more (by omega)
  have HZ4 : Hid (Cuts w4 w4.heap.size Z (mres a b)) := (HZ3.out.below hb6 (by omega)).more (by omega)
  have HT4 : Hid (Cuts w4 w4.heap.size T (mres a b)) := hT
  have hb7 := hb5.trans (hb6.mono hz5)
  have hz7 := hb7.size
  clear HX3 HY3 HZ3 hT hb5 hb6
  have hml := mres_len a b
  go_wp2_with fail
  refine (same_calls Z T cz ct (mres a b) (mres a b) _ w4.heap.size (by omega) (by omega) HZ4.out HT4.out).mono ?_
  rintro e w5 ⟨rfl, n, rfl⟩
  have e0 : sameB (mres a b) (mres a b) = true := decide_eq_true rfl
  rw [e0]
  clear e0
  have hb8 : Below w.heap.size w (w4.drewN n) := hb7.trans ⟨rfl, rfl, rfl, Nat.le_refl _, fun _ _ => rfl⟩
  have HX5 : Hid (Cuts (w4.drewN n) (w4.drewN n).heap.size X a) := HX4
  have HY5 : Hid (Cuts (w4.drewN n) (w4.drewN n).heap.size Y b) := HY4
  clear HX4 HY4 HZ4 HT4 hb7 hz7 hz6
  generalize w4.drewN n = w5 at hb8 HX5 HY5 ⊢
  have hz8 := hb8.size
  go_wp2_with fail
  refine (valid_calls X cx a _ hcx (by omega) HX5.out).mono ?_
  rintro e w6 ⟨rfl, hb9⟩
  have hz9 := hb9.size
  have HX6 : Hid (Cuts w6 w6.heap.size X a) := (HX5.out.below hb9 (Nat.le_refl _)).more hz9
  have HY6 : Hid (Cuts w6 w6.heap.size Y b) := (HY5.out.below hb9 (Nat.le_refl _)).more hz9
  have hb10 := hb8.trans (hb9.mono hz8)
  have hz10 := hb10.size
  clear HX5 HY5 hb8 hb9
  go_wp2_with fail
  refine (rvalid_calls A ca a _ hla (by omega) ((HA.out.below hb10 (Nat.le_refl _)).more hz10)).mono ?_
  rintro e w7 ⟨rfl, hb11⟩
  have hz11 := hb11.size
  have HX7 : Hid (Cuts w7 w7.heap.size X a) := (HX6.out.below hb11 (Nat.le_refl _)).more hz11
  have HY7 : Hid (Cuts w7 w7.heap.size Y b) := (HY6.out.below hb11 (Nat.le_refl _)).more hz11
  have hb12 := hb10.trans (hb11.mono hz10)
  have hz12 := hb12.size
  clear HX6 HY6 hb10 hb11
  go_wp2_with fail
  refine (same_calls X A cx ca a a _ w7.heap.size (by omega) (by omega) HX7.out ((HA.out.below hb12 (Nat.le_refl _)).more hz12)).mono ?_
  rintro e w8 ⟨rfl, n2, rfl⟩
  have e0 : sameB a a = true := decide_eq_true rfl
  rw [e0]
  clear e0
  have hb13 : Below w.heap.size w (w7.drewN n2) := hb12.trans ⟨rfl, rfl, rfl, Nat.le_refl _, fun _ _ => rfl⟩
  have HY8 : Hid (Cuts (w7.drewN n2) (w7.drewN n2).heap.size Y b) := HY7
  clear HX7 HY7 hb12 hz12 hz11 hz10
  generalize w7.drewN n2 = w8 at hb13 HY8 ⊢
  have hz13 := hb13.size
  go_wp2_with fail
  refine (same_calls Y B cy cb b b _ w8.heap.size (by omega) (by omega) HY8.out ((HB.out.below hb13 (Nat.le_refl _)).more hz13)).mono ?_
  rintro e w9 ⟨rfl, n3, rfl⟩
  have e0 : sameB b b = true := decide_eq_true rfl
  rw [e0]
  clear e0
  have hb14 : Below w.heap.size w (w8.drewN n3) := hb13.trans ⟨rfl, rfl, rfl, Nat.le_refl _, fun _ _ => rfl⟩
  clear HY8 hb13 hz13
  generalize w8.drewN n3 = w9 at hb14 ⊢
  have hz14 := hb14.size
  go_wp2_with fail
  refine (sure_calls _).mono ?_
  rintro e w10 ⟨rfl, hb15⟩
  have hb16 := hb14.trans (hb15.mono hz14)
  clear hb14 hb15
  go_wp2
  go_ret
  exact ⟨rfl, hb16⟩
end Go.Proofs.YtgambpcggengoaaDoor
