/- 'cuspref23.behind' tells what is behind a beginning. -/
import Derived.Test.YtgambpcggengoaaGreatDoorRShow
namespace Go.Proofs.YtgambpcggengoaaGreatDoor
open Go.RowKit
set_option maxRecDepth 100000

def bOk (s p : ByteArray) : Bool := decide (p.size ≤ s.size) && ((s.extract 0 p.size).toList == p.toList)
def bRest (s p : ByteArray) : ByteArray := if bOk s p then s.extract p.size s.size else s
theorem behind_calls (s p : ByteArray) (w : World) (hs : s.size ≤ 1048576) (hp : p.size ≤ 1048576) :
    Calls Tryz.prog 23 #[.string s, .string p] w fun e w' => e = .returned (.tuple #[.string (bRest s p), .bool (bOk s p)]) ∧ w' = w := by
  by_cases h1 : s.size < p.size
  · have e1 : bOk s p = false := by rw [bOk, decide_eq_false (by omega)]; rfl
    have e2 : bRest s p = s := by rw [bRest, e1]; rfl
    rw [e1, e2]
    go_enter Tryz.func23, Tryz.ntmps23
    go_wp2
    refine bodyPost_ret (v := .tuple #[.string s, .bool false]) ?_ rfl ⟨rfl, rfl⟩
    simp [results, Tryz.results23, go_sem]
  · have hle : p.size ≤ s.size := by omega
    cases ht : ((s.extract 0 p.size).toList == p.toList) with
    | true =>
      have e1 : bOk s p = true := by rw [bOk, decide_eq_true hle, ht]; rfl
      have e2 : bRest s p = s.extract p.size s.size := by rw [bRest, e1]; rfl
      rw [e1, e2]
      clear e1 e2
      go_enter Tryz.func23, Tryz.ntmps23
      go_wp2
      refine bodyPost_ret (v := .tuple #[.string (s.extract p.size s.size), .bool true]) ?_ rfl ⟨rfl, rfl⟩
      simp [results, Tryz.results23, go_sem]
    | false =>
      have e1 : bOk s p = false := by rw [bOk, ht, Bool.and_false]
      have e2 : bRest s p = s := by rw [bRest, e1]; rfl
      rw [e1, e2]
      clear e1 e2
      go_enter Tryz.func23, Tryz.ntmps23
      go_wp2
      refine bodyPost_ret (v := .tuple #[.string s, .bool false]) ?_ rfl ⟨rfl, rfl⟩
      simp [results, Tryz.results23, go_sem]
end Go.Proofs.YtgambpcggengoaaGreatDoor
