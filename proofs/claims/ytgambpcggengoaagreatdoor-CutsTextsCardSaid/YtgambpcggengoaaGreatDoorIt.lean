/- The words of a cut and of a list of cuts. -/
import Derived.Test.YtgambpcggengoaaGreatDoorKn
import Derived.Lib.Join
namespace Go.Proofs.YtgambpcggengoaaGreatDoor
open Go.RowKit
set_option maxRecDepth 100000

/-- a side's word -/
def sdB (s : Int) : ByteArray := if s = 1 then ⟨#[97, 98, 111, 118, 101]⟩ else if s = 2 then ⟨#[98, 101, 108, 111, 119]⟩ else ⟨#[98, 111, 116, 104]⟩
/-- a cut's words -/
def itB (c : Int × Int) : ByteArray := knN c.1 ++ ⟨#[32]⟩ ++ sdB c.2

theorem knN_size (f : Int) : (knN f).size ≤ 5 := by
  unfold knN
  repeat' split
  all_goals decide
theorem sdB_size (s : Int) : (sdB s).size ≤ 5 := by
  unfold sdB
  repeat' split
  all_goals decide

/-- the text of a list -/
def shB (l : List (Int × Int)) : ByteArray := ⟨(Lib.join ((l.map itB).map (·.data.toList)) (⟨#[44, 32]⟩ : ByteArray).data.toList).toArray⟩

theorem itB_size (c : Int × Int) : (itB c).size ≤ 11 := by
  have h1 := knN_size c.1
  have h2 := sdB_size c.2
  unfold itB
  rw [ByteArray.size_append, ByteArray.size_append]
  have : (⟨#[32]⟩ : ByteArray).size = 1 := rfl
  omega
theorem lens_small : ∀ l : List (Int × Int), Lib.lens ((l.map itB).map (·.data.toList)) ≤ 11 * l.length
  | [] => by simp [Lib.lens]
  | c :: l => by
    have := lens_small l
    have h := itB_size c
    simp only [Lib.lens, List.map_cons, List.sum_cons, List.length_cons] at *
    have e : (itB c).data.toList.length = (itB c).size := rfl
    rw [e]
    omega
theorem join_small : ∀ l : List (Int × Int), (Lib.join ((l.map itB).map (·.data.toList)) (⟨#[44, 32]⟩ : ByteArray).data.toList).length ≤ 13 * l.length
  | [] => by simp [Lib.join]
  | c :: l => by
    have := lens_small (c :: l)
    rw [List.map_cons, List.map_cons, Lib.join_length, List.length_map, List.length_map]
    simp only [List.map_cons, List.length_cons] at *
    change 2 * l.length + _ ≤ _
    omega

end Go.Proofs.YtgambpcggengoaaGreatDoor
