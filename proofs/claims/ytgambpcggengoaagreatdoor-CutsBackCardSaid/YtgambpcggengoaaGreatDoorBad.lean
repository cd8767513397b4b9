/- 'cuts.Merge' and 'cuts.Show' where a list is none of cuts: the error. -/
import Derived.Test.YtgambpcggengoaaGreatDoorShow
namespace Go.Proofs.YtgambpcggengoaaGreatDoor
open Go.RowKit
set_option maxRecDepth 100000
attribute [local go_sem] run_frombits run_bits store_f store_c

theorem show_bad (A : Option Addr) (c : Nat) (l : List (Int × Int)) (w : World) (hl : l.length ≤ c) (hc : l.length ≤ 140737488351232) (h : Cuts w w.heap.size A l) (hv : Cut.validB l = false) :
    Calls Tryz.prog 5 #[.slice A l.length c] w fun e w' => e = .returned (.tuple #[.string ⟨#[]⟩, .int .i64 1]) ∧ Below w.heap.size w w' := by
  have HH := Lib.hid h; have HV := Lib.hid hv
  clear h hv
  go_enter Tryz.func5, Tryz.ntmps5
  go_wp2_with fail
  refine (valid_calls A c l _ hl hc HH.out).mono ?_
  rintro e w1 ⟨rfl, hb1⟩
  have e0 : validI l = 1 := (validI_no HV.out).symm
  rw [e0]
  clear e0
  go_wp2
  refine bodyPost_ret (v := .tuple #[.string ⟨#[]⟩, .int .i64 1]) ?_ rfl ⟨rfl, hb1⟩
  simp [results, Tryz.results5, go_sem]

theorem merge_bad (A B : Option Addr) (ca cb : Nat) (a b : List (Int × Int)) (w : World) (hla : a.length ≤ ca) (hlb : b.length ≤ cb) (hca : a.length ≤ 140737488351232) (hcb : b.length ≤ 140737488351232)
    (ha : Cuts w w.heap.size A a) (hb : Cuts w w.heap.size B b) (v : (Cut.validB a && Cut.validB b) = false) :
    Calls Tryz.prog 12 #[.slice A a.length ca, .slice B b.length cb] w fun e w' => e = .returned (.tuple #[.slice none 0 0, .int .i64 1]) ∧ Below w.heap.size w w' := by
  have HA := Lib.hid ha; have HB := Lib.hid hb; have V := Lib.hid v
  clear ha hb v
  go_enter Tryz.func12, Tryz.ntmps12
  go_wp2_with fail
  refine (valid_calls A ca a _ hla hca HA.out).mono ?_
  rintro e w1 ⟨rfl, hb1⟩
  cases hv : Cut.validB a with
  | false =>
    have e0 : validI a = 1 := (validI_no hv).symm
    rw [e0]
    clear e0 hv
    go_wp2
    refine bodyPost_ret (v := .tuple #[.slice none 0 0, .int .i64 1]) ?_ rfl ⟨rfl, hb1⟩
    simp [results, Tryz.results12, go_sem]
  | true =>
    have e0 : validI a = 0 := (validI_yes hv).symm
    have e1 : validI b = 1 := (validI_no (by have := V.out; rw [hv] at this; exact this)).symm
    rw [e0]
    clear e0 hv
    have E1 := Lib.hid e1
    clear e1
    go_wp2_with fail
    refine (valid_calls B cb b _ hlb hcb ((HB.out.below hb1 (Nat.le_refl _)).more hb1.size)).mono ?_
    rintro e w2 ⟨rfl, hb2⟩
    rw [E1.out]
    have hb3 := hb1.trans (hb2.mono hb1.size)
    clear hb1 hb2
    go_wp2
    refine bodyPost_ret (v := .tuple #[.slice none 0 0, .int .i64 1]) ?_ rfl ⟨rfl, hb3⟩
    simp [results, Tryz.results12, go_sem]
end Go.Proofs.YtgambpcggengoaaGreatDoor
