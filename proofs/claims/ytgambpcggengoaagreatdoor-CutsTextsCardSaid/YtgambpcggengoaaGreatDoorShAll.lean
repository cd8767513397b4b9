/- Both ways to show a list answer alike, whatever the list is. -/
import Derived.Test.YtgambpcggengoaaGreatDoorRShow
import Derived.Test.YtgambpcggengoaaGreatDoorAll
namespace Go.Proofs.YtgambpcggengoaaGreatDoor
open Go.RowKit
set_option maxRecDepth 100000

def shres (l : List (Int × Int)) : ByteArray := if Cut.validB l then shB l else ⟨#[]⟩
theorem show_all (A : Option Addr) (c : Nat) (l : List (Int × Int)) (w : World) (hl : l.length ≤ c) (hc : l.length ≤ 140737488351232) (h : Cuts w w.heap.size A l) :
    Calls Tryz.prog 5 #[.slice A l.length c] w fun e w' => e = .returned (.tuple #[.string (shres l), .int .i64 (validI l)]) ∧ Below w.heap.size w w' := by
  cases hv : Cut.validB l with
  | true =>
    have e1 : shres l = shB l := if_pos hv
    rw [e1, ← validI_yes hv]
    exact show_loop A c l w hl (by have := valid_len hv; omega) h hv
  | false =>
    have e1 : shres l = ⟨#[]⟩ := if_neg (by rw [hv]; decide)
    rw [e1, ← validI_no hv]
    exact show_bad A c l w hl hc h hv

theorem rshow_bad (A : Option Addr) (c : Nat) (l : List (Int × Int)) (w : World) (hl : l.length ≤ c) (hc : l.length ≤ 140737488351232) (h : Cuts w w.heap.size A l) (hv : Cut.validB l = false) :
    Calls Tryz.prog 6 #[.slice A l.length c] w fun e w' => e = .returned (.tuple #[.string ⟨#[]⟩, .int .i64 1]) ∧ Below w.heap.size w w' := by
  have HH := Lib.hid h; have HV := Lib.hid hv
  clear h hv
  go_enter Tryz.func6, Tryz.ntmps6
  go_wp2_with fail
  refine (rvalid_calls A c l _ hl hc HH.out).mono ?_
  rintro e w1 ⟨rfl, hb1⟩
  have e0 : validI l = 1 := (validI_no HV.out).symm
  rw [e0]
  clear e0
  go_wp2
  refine bodyPost_ret (v := .tuple #[.string ⟨#[]⟩, .int .i64 1]) ?_ rfl ⟨rfl, hb1⟩
  simp [results, Tryz.results6, go_sem]
theorem rshow_all (A : Option Addr) (c : Nat) (l : List (Int × Int)) (w : World) (hl : l.length ≤ c) (hc : l.length ≤ 140737488351232) (h : Cuts w w.heap.size A l) :
    Calls Tryz.prog 6 #[.slice A l.length c] w fun e w' => e = .returned (.tuple #[.string (shres l), .int .i64 (validI l)]) ∧ Below w.heap.size w w' := by
  cases hv : Cut.validB l with
  | true =>
    have e1 : shres l = shB l := if_pos hv
    rw [e1, ← validI_yes hv]
    exact rshow_loop A c l w hl (by have := valid_len hv; omega) h hv
  | false =>
    have e1 : shres l = ⟨#[]⟩ := if_neg (by rw [hv]; decide)
    rw [e1, ← validI_no hv]
    exact rshow_bad A c l w hl hc h hv
end Go.Proofs.YtgambpcggengoaaGreatDoor
