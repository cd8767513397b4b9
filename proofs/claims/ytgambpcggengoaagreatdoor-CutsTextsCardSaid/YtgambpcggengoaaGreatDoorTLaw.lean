/- 'CutsTexts' answers true. -/
import Derived.Test.YtgambpcggengoaaGreatDoorSure
import Derived.Test.YtgambpcggengoaaGreatDoorRead
namespace Go.Proofs.YtgambpcggengoaaGreatDoor
open Go.RowKit
set_option maxRecDepth 100000

theorem rd_len {s : ByteArray} {m : List (Int × Int)} {k : Int} (h : RdOk s m k) : m.length ≤ 46 := by
  rcases h with ⟨_, h, _⟩ | ⟨_, rfl, _⟩ | ⟨_, rfl, _⟩
  · have := valid_len h; omega
  · simp
  · simp

set_option maxHeartbeats 8000000 in
theorem tlaw_calls (A : Option Addr) (ca : Nat) (a : List (Int × Int)) (S : ByteArray) (mx : Int) (w : World) (hla : a.length ≤ ca) (hca : a.length * 16 ≤ 140737488351232)
    (ha : Cuts w w.heap.size A a) (hmx : w.cell? ⟨1, 0, none⟩ = some (.int .i64 mx)) :
    Calls Tryz.prog 3 #[.slice A a.length ca, .string S] w fun e w' => e = .returned (.bool true) ∧ Below w.heap.size w w' := by
  have HA := Lib.hid ha
  have HM : Hid (∀ w', Below w.heap.size w w' → w'.cell? ⟨1, 0, none⟩ = some (.int .i64 mx)) := fun w' hb => (hb.cell (p := ⟨1, 0, none⟩) (cell_lt_ hmx)).trans hmx
  clear ha hmx
  go_enter Tryz.func3, Tryz.ntmps3
  go_wp2_with fail
  refine (show_all A ca a _ hla (by omega) HA.out).mono ?_
  rintro e w1 ⟨rfl, hb1⟩
  have hz1 := hb1.size
  go_wp2_with fail
  refine (rshow_all A ca a _ hla (by omega) ((HA.out.below hb1 (Nat.le_refl _)).more hz1)).mono ?_
  rintro e w2 ⟨rfl, hb2⟩
  have hb3 := hb1.trans (hb2.mono hz1)
  have hz3 := hb3.size
  clear hb1 hb2
  go_wp2_with fail
  refine (read_calls S mx _ (HM.out _ hb3)).mono ?_
  rintro e w3 ⟨Z, cz, m, k, rfl, hR1, hcz, hZ, hb4⟩
  have HZ : Hid (Cuts w3 w3.heap.size Z m) := hZ
  have HR1 := Lib.hid hR1
  have hb5 := hb3.trans (hb4.mono hz3)
  have hz5 := hb5.size
  clear hb3 hb4 hZ hR1
  go_wp2_with fail
  refine (rread_calls S _).mono ?_
  rintro e w4 ⟨T, ct, m2, k2, rfl, hR2, hct, hT, hb6⟩
  obtain ⟨rfl, rfl⟩ := HR1.out.one hR2
  have hml : m.length ≤ 46 := rd_len HR1.out
  have HZ2 : Hid (Cuts w4 w4.heap.size Z m) := (HZ.out.below hb6 (Nat.le_refl _)).more hb6.size
  have HT2 : Hid (Cuts w4 w4.heap.size T m) := hT
  have hb7 := hb5.trans (hb6.mono hz5)
  have hz7 := hb7.size
  have ht1 : ((shres a).toList == (shres a).toList) = true := (Lib.bytes_beq_iff _ _).2 rfl
  clear hb5 hb6 hT HZ hR2
  go_wp2_with fail
  refine (same_calls Z T cz ct m m _ w4.heap.size (by omega) (by omega) HZ2.out HT2.out).mono ?_
  rintro e w5 ⟨rfl, n, rfl⟩
  have e0 : sameB m m = true := decide_eq_true rfl
  rw [e0]
  clear e0
  have hb8 : Below w.heap.size w (w4.drewN n) := hb7.trans ⟨rfl, rfl, rfl, Nat.le_refl _, fun _ _ => rfl⟩
  clear HZ2 HT2 hb7 hz7
  generalize w4.drewN n = w5 at hb8 ⊢
  have hz8 := hb8.size
  go_wp2_with fail
  refine (sure_calls _).mono ?_
  rintro e w6 ⟨rfl, hb9⟩
  have hb10 := hb8.trans (hb9.mono hz8)
  clear hb8 hb9
  go_wp2
  go_ret
  exact ⟨rfl, hb10⟩
end Go.Proofs.YtgambpcggengoaaGreatDoor
