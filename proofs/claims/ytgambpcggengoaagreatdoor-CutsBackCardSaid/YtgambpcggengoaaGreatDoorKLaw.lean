/- 'CutsBack' answers true. -/
import Derived.Test.YtgambpcggengoaaGreatDoorSure
import Derived.Test.YtgambpcggengoaaGreatDoorRead
namespace Go.Proofs.YtgambpcggengoaaGreatDoor
open Go.RowKit
set_option maxRecDepth 100000

set_option maxHeartbeats 8000000 in
theorem klaw_calls (A B : Option Addr) (ca cb : Nat) (a b : List (Int × Int)) (mx : Int) (w : World) (hla : a.length ≤ ca) (hlb : b.length ≤ cb) (hca : a.length * 16 ≤ 140737488351232) (hcb : b.length * 16 ≤ 140737488351232)
    (ha : Cuts w w.heap.size A a) (hb : Cuts w w.heap.size B b) (hmx : w.cell? ⟨1, 0, none⟩ = some (.int .i64 mx)) :
    Calls Tryz.prog 4 #[.slice A a.length ca, .slice B b.length cb] w fun e w' => e = .returned (.bool true) ∧ Below w.heap.size w w' := by
  have HA := Lib.hid ha; have HB := Lib.hid hb
  have HM : Hid (∀ w', Below w.heap.size w w' → w'.cell? ⟨1, 0, none⟩ = some (.int .i64 mx)) := fun w' hb => (hb.cell (p := ⟨1, 0, none⟩) (cell_lt_ hmx)).trans hmx
  clear ha hb hmx
  go_enter Tryz.func4, Tryz.ntmps4
  go_wp2_with fail
  refine (show_all A ca a _ hla (by omega) HA.out).mono ?_
  rintro e w1 ⟨rfl, hb1⟩
  have hz1 := hb1.size
  cases hva : Cut.validB a with
  | false =>
    have e1 : validI a = 1 := (validI_no hva).symm
    have E1 := Lib.hid e1
    rw [e1]
    clear e1 hva
    go_wp2_with fail
    refine (valid_calls A ca a _ hla (by omega) ((HA.out.below hb1 (Nat.le_refl _)).more hz1)).mono ?_
    rintro e w2 ⟨rfl, hb2⟩
    rw [E1.out]
    have hb3 := hb1.trans (hb2.mono hz1)
    have hz3 := hb3.size
    clear hb1 hb2
    go_wp2_with fail
    refine (sure_calls _).mono ?_
    rintro e w6 ⟨rfl, hb9⟩
    have hb10 := hb3.trans (hb9.mono hz3)
    clear hb3 hb9
    go_wp2
    go_ret
    exact ⟨rfl, hb10⟩
  | true =>
    have HVA := Lib.hid hva
    have e1 : validI a = 0 := (validI_yes hva).symm
    have e2 : shres a = shB a := if_pos hva
    rw [e1, e2]
    clear e1 e2 hva
    go_wp2_with fail
    refine (read_calls (shB a) mx _ (HM.out _ hb1)).mono ?_
    rintro e w3 ⟨Z, cz, m, k, rfl, hR1, hcz, hZ, hb4⟩
    obtain ⟨rfl, rfl⟩ := hR1.one (n := a) (j := 0) (.inl ⟨rfl, HVA.out, rfl⟩)
    have HZ : Hid (Cuts w3 w3.heap.size Z m) := hZ
    have hb5 := hb1.trans (hb4.mono hz1)
    have hz5 := hb5.size
    have hml := valid_len HVA.out
    clear hb1 hb4 hZ hR1
    go_wp2_with fail
    refine (same_calls Z A cz ca m m _ w3.heap.size (by omega) (by omega) HZ.out ((HA.out.below hb5 (Nat.le_refl _)).more hz5)).mono ?_
    rintro e w5 ⟨rfl, n, rfl⟩
    have e0 : sameB m m = true := decide_eq_true rfl
    rw [e0]
    clear e0 HZ
    have hb8 : Below w.heap.size w (w3.drewN n) := hb5.trans ⟨rfl, rfl, rfl, Nat.le_refl _, fun _ _ => rfl⟩
    clear hb5 hz5
    generalize w3.drewN n = w5 at hb8 ⊢
    have hz8 := hb8.size
    go_wp2_with fail
    refine (merge_all A B ca cb m b _ hla hlb (by omega) (by omega) ((HA.out.below hb8 (Nat.le_refl _)).more hz8) ((HB.out.below hb8 (Nat.le_refl _)).more hz8)).mono ?_
    rintro e w6 ⟨X, cx, rfl, hcx, hX, hb9⟩
    have HX : Hid (Cuts w6 w6.heap.size X (mres m b)) := hX
    have hb10 := hb8.trans (hb9.mono hz8)
    have hz10 := hb10.size
    clear hb8 hb9 hX hz8
    go_wp2_with fail
    refine (merge_all B A cb ca b m _ hlb hla (by omega) (by omega) ((HB.out.below hb10 (Nat.le_refl _)).more hz10) ((HA.out.below hb10 (Nat.le_refl _)).more hz10)).mono ?_
    rintro e w7 ⟨Y, cy, rfl, hcy, hY, hb11⟩
    have HX7 : Hid (Cuts w7 w7.heap.size X (mres m b)) := (HX.out.below hb11 (Nat.le_refl _)).more hb11.size
    have HY7 : Hid (Cuts w7 w7.heap.size Y (mres b m)) := hY
    have hb12 := hb10.trans (hb11.mono hz10)
    have hz12 := hb12.size
    clear hb10 hb11 hY hz10 HX
    cases hvb : Cut.validB b with
    | false =>
      have e1 : mcode m b = 1 := if_neg (by rw [HVA.out, hvb]; decide)
      have e2 : mcode b m = 1 := if_neg (by rw [HVA.out, hvb]; decide)
      have e3 : validI b = 1 := (validI_no hvb).symm
      have E3 := Lib.hid e3
      rw [e1, e2]
      clear e1 e2 e3 hvb
      go_wp2_with fail
      refine (valid_calls B cb b _ hlb (by omega) ((HB.out.below hb12 (Nat.le_refl _)).more hz12)).mono ?_
      rintro e w8 ⟨rfl, hb13⟩
      rw [E3.out]
      have hb14 := hb12.trans (hb13.mono hz12)
      have hz14 := hb14.size
      clear hb12 hb13
      go_wp2_with fail
      refine (sure_calls _).mono ?_
      rintro e w9 ⟨rfl, hb15⟩
      have hb16 := hb14.trans (hb15.mono hz14)
      clear hb14 hb15
      go_wp2
      go_ret
      exact ⟨rfl, hb16⟩
    | true =>
      have hand : (Cut.validB m && Cut.validB b) = true := by rw [HVA.out, hvb]; rfl
      have hand2 : (Cut.validB b && Cut.validB m) = true := by rw [HVA.out, hvb]; rfl
      have e1 : mcode m b = 0 := if_pos hand
      have e2 : mcode b m = 0 := if_pos hand2
      have e3 : mres m b = Cut.mrg m b := if_pos hand
      have e4 : mres b m = Cut.mrg m b := by rw [Cut.mrg_comm HVA.out hvb]; exact if_pos hand2
      have hvx := Cut.mrg_valid HVA.out hvb
      have hand3 : (Cut.validB (Cut.mrg m b) && Cut.validB m) = true := by rw [HVA.out, hvx]; rfl
      have hand4 : (Cut.validB m && Cut.validB m) = true := by rw [HVA.out]; rfl
      have e5 : mcode (Cut.mrg m b) m = 0 := if_pos hand3
      have e6 : mcode m m = 0 := if_pos hand4
      have e7 : mres (Cut.mrg m b) m = Cut.mrg m b := (if_pos hand3).trans (Cut.mrg_twice HVA.out hvb)
      have e8 : mres m m = m := (if_pos hand4).trans (Cut.mrg_self HVA.out)
      rw [e3] at HX7 hcx ⊢
      rw [e4] at HY7 hcy ⊢
      rw [e1, e2]
      have hxl := valid_len hvx
      have E5 := Lib.hid e5; have E6 := Lib.hid e6; have E7 := Lib.hid e7; have E8 := Lib.hid e8
      clear e1 e2 e3 e4 e5 e6 e7 e8 hand hand2 hand3 hand4 hvx hvb
      obtain ⟨x, hx⟩ : ∃ x, x = Cut.mrg m b := ⟨_, rfl⟩
      rw [← hx] at HX7 HY7 hcx hcy hxl E5 E7 ⊢
      clear hx
      go_wp2_with fail
      refine (merge_all X A cx ca x m _ hcx hla (by omega) (by omega) HX7.out ((HA.out.below hb12 (Nat.le_refl _)).more hz12)).mono ?_
      rintro e w8 ⟨T, ct, rfl, hct, hT, hb13⟩
      rw [E7.out] at hct hT ⊢
      rw [E5.out]
      have HX8 : Hid (Cuts w8 w8.heap.size X x) := (HX7.out.below hb13 (Nat.le_refl _)).more hb13.size
      have HY8 : Hid (Cuts w8 w8.heap.size Y x) := (HY7.out.below hb13 (Nat.le_refl _)).more hb13.size
      have HT8 : Hid (Cuts w8 w8.heap.size T x) := hT
      have hb14 := hb12.trans (hb13.mono hz12)
      have hz14 := hb14.size
      clear hb12 hb13 hT HX7 HY7 hz12
      go_wp2_with fail
      refine (merge_all A A ca ca m m _ hla hla (by omega) (by omega) ((HA.out.below hb14 (Nat.le_refl _)).more hz14) ((HA.out.below hb14 (Nat.le_refl _)).more hz14)).mono ?_
      rintro e w9 ⟨U, cu, rfl, hcu, hU, hb15⟩
      rw [E8.out] at hcu hU ⊢
      rw [E6.out]
      have HX9 : Hid (Cuts w9 w9.heap.size X x) := (HX8.out.below hb15 (Nat.le_refl _)).more hb15.size
      have HY9 : Hid (Cuts w9 w9.heap.size Y x) := (HY8.out.below hb15 (Nat.le_refl _)).more hb15.size
      have HT9 : Hid (Cuts w9 w9.heap.size T x) := (HT8.out.below hb15 (Nat.le_refl _)).more hb15.size
      have HU9 : Hid (Cuts w9 w9.heap.size U m) := hU
      have hb16 := hb14.trans (hb15.mono hz14)
      have hz16 := hb16.size
      clear hb14 hb15 hU HX8 HY8 HT8 hz14
      go_wp2_with fail
      refine (same_calls X Y cx cy x x _ w9.heap.size (by omega) (by omega) HX9.out HY9.out).mono ?_
      rintro e w10 ⟨rfl, n1, rfl⟩
      have e0 : sameB x x = true := decide_eq_true rfl
      rw [e0]
      have HX10 : Hid (Cuts (w9.drewN n1) (w9.drewN n1).heap.size X x) := HX9
      have HT10 : Hid (Cuts (w9.drewN n1) (w9.drewN n1).heap.size T x) := HT9
      have HU10 : Hid (Cuts (w9.drewN n1) (w9.drewN n1).heap.size U m) := HU9
      have hb17 : Below w.heap.size w (w9.drewN n1) := hb16.trans ⟨rfl, rfl, rfl, Nat.le_refl _, fun _ _ => rfl⟩
      clear HX9 HY9 HT9 HU9 hb16 hz16 e0
      generalize w9.drewN n1 = w10 at HX10 HT10 HU10 hb17 ⊢
      go_wp2_with fail
      refine (same_calls T X ct cx x x _ w10.heap.size (by omega) (by omega) HT10.out HX10.out).mono ?_
      rintro e w11 ⟨rfl, n2, rfl⟩
      have e0 : sameB x x = true := decide_eq_true rfl
      rw [e0]
      have HU11 : Hid (Cuts (w10.drewN n2) (w10.drewN n2).heap.size U m) := HU10
      have hb18 : Below w.heap.size w (w10.drewN n2) := hb17.trans ⟨rfl, rfl, rfl, Nat.le_refl _, fun _ _ => rfl⟩
      clear HX10 HT10 HU10 hb17 e0
      generalize w10.drewN n2 = w11 at HU11 hb18 ⊢
      have hz18 := hb18.size
      go_wp2_with fail
      refine (same_calls U A cu ca m m _ w11.heap.size (by omega) (by omega) HU11.out ((HA.out.below hb18 (Nat.le_refl _)).more hz18)).mono ?_
      rintro e w12 ⟨rfl, n3, rfl⟩
      have e0 : sameB m m = true := decide_eq_true rfl
      rw [e0]
      have hb19 : Below w.heap.size w (w11.drewN n3) := hb18.trans ⟨rfl, rfl, rfl, Nat.le_refl _, fun _ _ => rfl⟩
      clear HU11 hb18 e0
      generalize w11.drewN n3 = w12 at hb19 ⊢
      have hz19 := hb19.size
      go_wp2_with fail
      refine (sure_calls _).mono ?_
      rintro e w13 ⟨rfl, hb20⟩
      have hb21 := hb19.trans (hb20.mono hz19)
      clear hb19 hb20
      go_wp2
      go_ret
      exact ⟨rfl, hb21⟩
end Go.Proofs.YtgambpcggengoaaGreatDoor
