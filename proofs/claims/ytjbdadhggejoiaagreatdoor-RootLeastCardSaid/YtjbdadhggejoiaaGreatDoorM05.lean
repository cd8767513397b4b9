/- 'make' with a length and a capacity: a row of noughts that is the call's own. -/
import Derived.Test.YtjbdadhggejoiaaGreatDoorM02
import Derived.Laws.MakeOwn

namespace Go.Proofs.YtjbdadhggejoiaaGreatDoor
open Go.RowKit

theorem made_take (z : Value) (L C : Nat) (h : L ≤ C) : (madeCells #[z] C).toList.take L = List.replicate L z := by
  have e : (madeCells #[z] C).toList = List.replicate C z := by
    apply List.ext_getElem
    · simp [madeCells]
    · intro i h1 h2
      simp [madeCells, Nat.mod_one]
  rw [e, List.take_replicate, Nat.min_eq_left h]
theorem wpList_make_len {P : Program} (w : World) {ops : Array Oper} {rest : List Oper} {o : Oper} {a : Act} {Q : Exit → Act → World → Prop}
    (hg : o.guard = none) (l c : Operand) (t : TypeId) (hop : o.op = Op.makeSlice t l c)
    (base : Nat) (e : TypeId) (i : TypeInfo) (z : Value) (h1 : P.underlying t = some (.slice e)) (h2 : P.info? e = some i) (h3 : i.zero = some z) (h4 : i.size = 1) (h5 : z.cells = #[z])
    (kl kc : IntKind) (Lz Cz : Int) (L C : Nat) (hl : a.eval l = .int kl Lz) (hc : a.eval c = .int kc Cz) (hL : Lz = (L : Int)) (hC : Cz = (C : Int)) (hLC : L ≤ C) (b2 : i.bytes * C ≤ 281474976710656) (b3 : C ≤ maxLen) (b4 : base ≤ w.heap.size)
    (hK : ∀ w', w'.ownsRow base e 1 (.slice (some ⟨w.heap.size, 0, none⟩) L C) L (List.replicate L z) → w.grownBy w' none → wpList P ops Q rest (a.put o.dst (.slice (some ⟨w.heap.size, 0, none⟩) L C)) w') :
    wpList P ops Q (o :: rest) a w := by
  refine wpList_plain hg fun K hK' => ?_
  subst hL; subst hC
  have hb' : (i.bytes : Int) * (C : Int) ≤ 281474976710656 := by
    have h : ((i.bytes * C : Nat) : Int) ≤ 281474976710656 := by omega
    rwa [Int.natCast_mul] at h
  have h63' : (C : Int) ≤ 9223372036854775807 := by
    have h := b3
    simp [maxLen] at h
    omega
  have hrun := run_make (P := P) w t e i z h1 h2 h3 kl kc L C (by omega) (by omega) hb' h63'
  simp only [Int.toNat_natCast, h4, h5, Nat.mul_one] at hrun
  have hown : (w.alloc (.cells (madeCells #[z] C) e)).ownsRow base e 1 (.slice (some ⟨w.heap.size, 0, none⟩) L C) L (List.replicate L z) :=
    ⟨by simp, .inr ⟨w.heap.size, C, madeCells #[z] C, rfl, b4, heap_alloc_new _ _, hLC, b3, by rw [size_madeCells, Nat.mul_one], by rw [Nat.mul_one, made_take z L C hLC]⟩⟩
  unfold Oper.wp
  simp [execOp, hop, hl, hc, hrun, Result.andThen]
  exact hK' _ _ (hK _ hown (World.grownBy_alloc w _ none))
end Go.Proofs.YtjbdadhggejoiaaGreatDoor
