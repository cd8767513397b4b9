/- A region that draws its order, reads and calls: one walk in the order of the text, in a class of worlds. -/
import Derived.WalkKit
import Derived.BigQuiet
import Derived.Below
namespace Go.Proofs.YtgambpcggengoaaGreatDoor
open Go.RowKit

section
variable {P : Program} {C S : World → Prop} {K : Act → Prop} {a : Act} {o : Oper}
theorem q_held {v : Value} (hS : ∀ w, C w → S w) (h : ∀ w, S w → (execOp a.eval o).run P w = .ok (.value v) w) (hk : K (a.put o.dst v)) : o.quiet P a C K :=
  ⟨v, fun w hw => by unfold Oper.quietAt; rw [h w (hS w hw)]; exact ⟨rfl, rfl⟩, hk⟩
theorem q_call {f : FuncId} {args : Array Value} {v : Value} (h : ∀ w, (execOp a.eval o).run P w = .ok (.enter f args) w) (hc : ∀ w, C w → Calls P f args w fun e w' => e = .returned v ∧ C w')
    (hk : K (a.put o.dst v)) : o.quiet P a C K :=
  ⟨v, fun w hw => by unfold Oper.quietAt; rw [h w]; exact ⟨rfl, hc w hw⟩, hk⟩
end
theorem below_draw (w : World) (B : Nat) : Below B w { w with drawn := w.drawn + 1 } := ⟨rfl, rfl, rfl, Nat.le_refl _, fun _ _ => rfl⟩
/-- a contract that ends in 'Below', within the class 'what lay below B is as it was' -/
theorem calls_in {P : Program} {f : FuncId} {args : Array Value} {w w0 : World} {v : Value} {B : Nat} (h : Calls P f args w fun e w' => e = .returned v ∧ Below w.heap.size w w') (hC : Below B w0 w) (hB : B ≤ w.heap.size) :
    Calls P f args w fun e w' => e = .returned v ∧ Below B w0 w' :=
  h.mono fun _ _ ⟨he, hb⟩ => ⟨he, hC.trans (hb.mono hB)⟩
end Go.Proofs.YtgambpcggengoaaGreatDoor
