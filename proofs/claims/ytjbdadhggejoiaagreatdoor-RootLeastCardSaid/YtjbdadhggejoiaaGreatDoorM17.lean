/- 'dyad': Mul.
   'dyad': Neg, Shift. -/
import Derived.Test.YtjbdadhggejoiaaGreatDoorM16
import Derived.Deep.TreeCalls

namespace Go.Proofs.YtjbdadhggejoiaaGreatDoor
open Go.RowKit
set_option maxRecDepth 100000

theorem at3_of {w : World} {B i : Nat} {d : Dy} {A : Option Addr} {c : Nat} (ho : d.ok) (h1 : w.cell? ⟨B, i, none⟩ = some (.bool d.neg)) (h2 : w.cell? ⟨B, i + 1, none⟩ = some (.slice A (words d.m).length c)) (h3 : w.cell? ⟨B, i + 2, none⟩ = some (.int .i64 d.e)) (hN : NR w (NV d.neg A (words d.m).length c d.e) d.neg d.m d.e) : At3 w B i :=
  ⟨d.neg, A, d.m, c, d.e, h1, h2, h3, hN, ho⟩
/-- the slice that 'valid' is called with -/
theorem valid_two {w : World} {a b : Dy} {A A2 : Option Addr} {c c2 B : Nat} {t : TypeId} (ha : a.ok) (hb : b.ok) (hA : NR w (NV a.neg A (words a.m).length c a.e) a.neg a.m a.e) (hB : NR w (NV b.neg A2 (words b.m).length c2 b.e) b.neg b.m b.e) (hs : w.heap.size = B) :
    ∀ i, i < 2 → At3 (w.alloc (.cells #[.bool a.neg, .slice A (words a.m).length c, .int .i64 a.e, .bool b.neg, .slice A2 (words b.m).length c2, .int .i64 b.e] t)) B (3 * i) := by
  intro i hi
  rcases (by omega : i = 0 ∨ i = 1) with rfl | rfl
  · exact at3_of ha (cell_new hs 0) (cell_new hs 1) (cell_new hs 2) (hA.grown0 (grown_alloc _ _ _))
  · exact at3_of hb (cell_new hs 3) (cell_new hs 4) (cell_new hs 5) (hB.grown0 (grown_alloc _ _ _))

theorem Ws.grownR {w w' : World} {B b : Nat} {A : Option Addr} {l : List Nat} (hw : Ws w B A l) (hB : B ≤ w.heap.size) (hg : w.grownBy w' (some b)) (h : Rec w b) : Ws w' w'.heap.size A l := by
  refine ⟨hw.1, fun h0 => ?_⟩
  obtain ⟨ad, e, hb, hc⟩ := hw.2 h0
  have hne : ad.block ≠ b := fun hbb => by
    obtain ⟨ad', e', _, h1⟩ := hw.at_ 0 h0
    rw [e] at e'
    injection e' with e'
    subst e'
    change w.cell? ad = _ at h1
    obtain ⟨cs, t, h2, h3⟩ := h
    unfold World.cell? at h1
    rw [hbb, h2] at h1
    simp only at h1
    obtain ⟨blk, off, sp⟩ := ad
    cases sp with
    | none => exact h3 off _ (by simpa using h1) _ rfl
    | some s => simp at h1
  refine ⟨ad, e, Nat.lt_of_lt_of_le hb (Nat.le_trans hB hg.size), fun j u hu => ?_⟩
  refine (World.cell?_of_block (w := w) ?_).trans (hc j u hu)
  rw [addr_block]
  exact hg.block _ (Nat.lt_of_lt_of_le hb hB) (fun e => hne (Option.some.inj e))
theorem NR.grownR {w w' : World} {b : Nat} {v : Value} {neg : Bool} {m : Nat} {e : Int} (h : NR w v neg m e) (hg : w.grownBy w' (some b)) (h2 : Rec w b) : NR w' v neg m e := by
  obtain ⟨A, c, rfl, hc, hcm, hW⟩ := h
  exact ⟨A, c, rfl, hc, hcm, hW.grownR (Nat.le_refl _) hg h2⟩
theorem cell_ext {w w' : World} {a : Addr} {v : Value} (h : w.grownBy w' none) (g : w.cell? a = some v) : w'.cell? a = some v :=
  (World.cell?_of_block (w := w) (h.block _ (World.block_lt_of_cell? _ _ g) (fun e => by cases e))).trans g
theorem grown_some {w w' : World} {r : Option Nat} (h : w.grownBy w' none) : w.grownBy w' r := ⟨h.os, h.tape, h.output, h.size, fun k hk _ => h.block k hk (fun e => by cases e)⟩
theorem grown_setCell {w : World} {b i : Nat} {v : Value} : w.grownBy (w.setCell ⟨b, i, none⟩ v) (some b) := ⟨rfl, rfl, rfl, by simp, fun k _ hk => heap_setCell_other w ⟨b, i, none⟩ k v (fun e => hk (by simp [e]))⟩

theorem heap_at {w : World} {o : Obj} {k : Nat} (h : w.heap.size = k) : (w.alloc o).heap[k]? = some o := by
  subst h
  exact heap_alloc_new w o
theorem heap_old {w : World} {o o2 : Obj} {k : Nat} (h : w.heap[k]? = some o2) : (w.alloc o).heap[k]? = some o2 := by
  have hk := (Array.getElem?_eq_some_iff.1 h).1
  exact (Below.heap_alloc w o k hk).trans h
theorem heap_grown {w w' : World} {o : Obj} {k : Nat} (h : w.heap[k]? = some o) (hg : w.grownBy w' none) : w'.heap[k]? = some o := by
  have hk := (Array.getElem?_eq_some_iff.1 h).1
  exact (hg.block k hk (fun e => by cases e)).trans h
/-- three boxes and a fourth block, behind a quiet call -/
theorem box4 {w w1 : World} {o1 o2 o3 o4 : Obj} (hg : ((((w.alloc o1).alloc o2).alloc o3).alloc o4).grownBy w1 none) :
    w1.heap[w.heap.size]? = some o1 ∧ w1.heap[w.heap.size + 1]? = some o2 ∧ w1.heap[w.heap.size + 1 + 1]? = some o3 ∧ w.grownBy w1 none ∧ w.heap.size + 4 ≤ w1.heap.size := by
  have hs := hg.size
  simp only [World.size_alloc] at hs
  exact ⟨heap_grown (heap_old (heap_old (heap_old (heap_at rfl)))) hg, heap_grown (heap_old (heap_old (heap_at (by simp)))) hg, heap_grown (heap_old (heap_at (by simp))) hg,
    grown_trans (grown_trans (grown_trans (grown_trans (grown_alloc _ _ _) (grown_alloc _ _ _)) (grown_alloc _ _ _)) (grown_alloc _ _ _)) hg, by omega⟩

theorem row3 {w : World} {b : Nat} {x y z : Value} {t : TypeId} (h : w.heap[b]? = some (.cells #[x, y, z] t (0, 0))) : w.cell? ⟨b, 0, none⟩ = some x ∧ w.cell? ⟨b, 1, none⟩ = some y ∧ w.cell? ⟨b, 2, none⟩ = some z :=
  ⟨(row_cells h 0).1, (row_cells h 1).1, (row_cells h 2).1⟩
theorem froz3 {w : World} {b : Nat} {cs : Array Value} {t : TypeId} (h : w.heap[b]? = some (.cells cs t (0, 0))) : w.frozen? ⟨b, 0, none⟩ = false ∧ w.frozen? ⟨b, 1, none⟩ = false ∧ w.frozen? ⟨b, 2, none⟩ = false :=
  ⟨(row_cells h 0).2, (row_cells h 1).2, (row_cells h 2).2⟩
/-- of the blocks that were there all but r stand: behind a method that sets a newer block -/
theorem grown_skip {w w1 w2 : World} {r x : Nat} (h : w.grownBy w1 (some r)) (k : w1.grownBy w2 (some x)) (hx : w.heap.size ≤ x) : w.grownBy w2 (some r) :=
  ⟨k.os.trans h.os, k.tape.trans h.tape, k.output.trans h.output, Nat.le_trans h.size k.size, fun i hi hr => (k.block i (Nat.lt_of_lt_of_le hi h.size) (fun e => by have := Option.some.inj e; omega)).trans (h.block i hi hr)⟩
theorem Tab.grownR {w w' : World} {r : Nat} (h : Tab w) (hg : w.grownBy w' (some r)) (hr : r ≠ 1) : Tab w' := fun i v hv =>
  (World.cell?_of_block (w := w) (hg.block 1 (by have := h.pos; omega) (fun e => hr (Option.some.inj e).symm))).trans (h i v hv)
theorem Two.drew {w : World} {b : Nat} (h : Two w b) : Two w.drew b := h
theorem IR.drew {w : World} {b : Nat} {z : Int} (h : IR w b z) : IR w.drew b z := h
theorem NR.drew {w : World} {v : Value} {neg : Bool} {m : Nat} {e : Int} (h : NR w v neg m e) : NR w.drew v neg m e := h

theorem size_ad (w : World) (o : Obj) : (w.alloc o).drew.heap.size = w.heap.size + 1 := by
  rw [show (w.alloc o).drew.heap.size = (w.alloc o).heap.size from rfl, World.size_alloc]
/-- a block of a number of the program -/
def Three (w : World) (b : Nat) : Prop := ∃ x A n c e t, w.heap[b]? = some (.cells #[.bool x, .slice A n c, .int .i64 e] t (0, 0))
theorem Three.grown {w w' : World} {b : Nat} {r : Option Nat} (h : Three w b) (hg : w.grownBy w' r) (hr : r ≠ some b) : Three w' b := by
  obtain ⟨x, A, n, c, e, t, h⟩ := h
  exact ⟨x, A, n, c, e, t, (hg.block b (Array.getElem?_eq_some_iff.1 h).1 (fun e => hr e.symm)).trans h⟩
theorem Three.open {w : World} {b : Nat} (h : Three w b) : ∃ x A n c e, w.cell? ⟨b, 0, none⟩ = some (.bool x) ∧ w.cell? ⟨b, 1, none⟩ = some (.slice A n c) ∧ w.cell? ⟨b, 2, none⟩ = some (.int .i64 e) ∧ w.frozen? ⟨b, 0, none⟩ = false ∧ w.frozen? ⟨b, 1, none⟩ = false ∧ w.frozen? ⟨b, 2, none⟩ = false := by
  obtain ⟨x, A, n, c, e, t, h⟩ := h
  obtain ⟨h1, h2, h3⟩ := row3 h
  obtain ⟨h4, h5, h6⟩ := froz3 h
  exact ⟨x, A, n, c, e, h1, h2, h3, h4, h5, h6⟩
theorem Three.rec' {w : World} {b : Nat} (h : Three w b) : Rec w b := by
  obtain ⟨x, A, n, c, e, t, h⟩ := h
  exact rec3 h
theorem Three.set {w : World} {b : Nat} (h : Three w b) (x : Bool) (A : Option Addr) (n c : Nat) (e : Int) :
    Three (((w.setCell ⟨b, 0, none⟩ (.bool x)).setCell ⟨b, 1, none⟩ (.slice A n c)).setCell ⟨b, 2, none⟩ (.int .i64 e)) b ∧ w.grownBy (((w.setCell ⟨b, 0, none⟩ (.bool x)).setCell ⟨b, 1, none⟩ (.slice A n c)).setCell ⟨b, 2, none⟩ (.int .i64 e)) (some b) := by
  obtain ⟨x0, A0, n0, c0, e0, t, h⟩ := h
  have h1 := heap_setCell_same w b 0 _ t (.bool x) h
  have h2 := heap_setCell_same _ b 1 _ t (.slice A n c) h1
  have h3 := heap_setCell_same _ b 2 _ t (.int .i64 e) h2
  exact ⟨⟨x, A, n, c, e, t, h3⟩, grown_trans grown_setCell (grown_trans grown_setCell grown_setCell)⟩
theorem Ws.set3 {w : World} {B b : Nat} {A' : Option Addr} {l : List Nat} (hw : Ws w B A' l) (h : Three w b) (x : Bool) (A : Option Addr) (n c : Nat) (e : Int) :
    Ws (((w.setCell ⟨b, 0, none⟩ (.bool x)).setCell ⟨b, 1, none⟩ (.slice A n c)).setCell ⟨b, 2, none⟩ (.int .i64 e)) B A' l := by
  have k1 := h.rec'
  have k2 := Rec.set (i := 0) (v := .bool x) k1 (fun n => by simp) k1
  have k3 := Rec.set (i := 1) (v := .slice A n c) k2 (fun n => by simp) k2
  exact ((hw.rec k1).rec k2).rec k3
/-- the world that a return leaves that stores a number into its result -/
theorem NumDone.store {w w5 : World} {r : Nat} {neg : Bool} {m : Nat} {e : Int} {A : Option Addr} {c : Nat} (h3 : Three w5 r) (hc : (words m).length ≤ c) (hcm : c ≤ maxLen) (hW : Ws w5 w5.heap.size A (words m)) (hb : Below w.heap.size w w5) (hr : w.heap.size ≤ r) :
    NumDone w neg m e (.returned (.tuple #[.agg #[.bool neg, .slice A (words m).length c, .int .i64 e], .int .i64 0])) (((w5.setCell ⟨r, 0, none⟩ (.bool neg)).setCell ⟨r, 1, none⟩ (.slice A (words m).length c)).setCell ⟨r, 2, none⟩ (.int .i64 e)) :=
  ⟨_, rfl, ⟨A, c, rfl, hc, hcm, by simpa using hW.set3 h3 neg A (words m).length c e⟩, ((hb.setCell (by exact hr) _).setCell (by exact hr) _).setCell (by exact hr) _⟩

set_option maxHeartbeats 4000000 in
theorem dmul_calls (v v2 : Value) (a b : Dy) (w : World) (hv : DR w v a) (ho : a.ok) (hv2 : DR w v2 b) (ho2 : b.ok) (hr : (dnorm (a.z * b.z) (a.e + b.e)).ok) (hT : Tab w) :
    Calls Tryz.prog 49 #[v, v2] w fun en w' => DDone w (dnorm (a.z * b.z) (a.e + b.e)) en w' := by
  obtain ⟨A, c, rfl, hc, hcm, hW⟩ := hv
  obtain ⟨A2, c2, rfl, hc2, hcm2, hW2⟩ := hv2
  have hN1 : NR w (NV a.neg A (words a.m).length c a.e) a.neg a.m a.e := ⟨A, c, rfl, hc, hcm, hW⟩
  have hN2 : NR w (NV b.neg A2 (words b.m).length c2 b.e) b.neg b.m b.e := ⟨A2, c2, rfl, hc2, hcm2, hW2⟩
  obtain ⟨L, hL⟩ : ∃ L, L = (words a.m).length := ⟨_, rfl⟩
  obtain ⟨L2, hL2⟩ : ∃ L, L = (words b.m).length := ⟨_, rfl⟩
  have hval := fun o1 o2 o3 t => dvalids_calls (w.heap.size + 1 + 1 + 1) 2 _ (by decide) (valid_two (w := ((w.alloc o1).alloc o2).alloc o3) (t := t) ho ho2 (((hN1.grown0 (grown_alloc _ _ _)).grown0 (grown_alloc _ _ _)).grown0 (grown_alloc _ _ _)) (((hN2.grown0 (grown_alloc _ _ _)).grown0 (grown_alloc _ _ _)).grown0 (grown_alloc _ _ _)) (by simp))
  simp only [← hL, ← hL2] at hval
  unfold NV
  rw [← hL, ← hL2]
  have HV := Lib.hid hval
  have HL := Lib.hid hL
  have HL2 := Lib.hid hL2
  clear hval hL hL2 hW hW2 hc hc2
  have ha1 : a.z.natAbs = a.m := by unfold Dy.z sg; split <;> simp
  have hb1 : b.z.natAbs = b.m := by unfold Dy.z sg; split <;> simp
  have hla := ho.len
  have hlb := ho2.len
  obtain ⟨d, hd⟩ : ∃ d, d = dnorm (a.z * b.z) (a.e + b.e) := ⟨_, rfl⟩
  have HNum : Hid (∀ W X, IR W X (a.z * b.z) → Tab W → Calls Tryz.prog 83 #[.pointer (some ⟨X, 0, none⟩), .int .i64 (a.e + b.e)] W fun e w' => DDone W d e w') := fun W X h1 h2 => by
    rw [hd]
    refine dnum_calls X _ _ W h1 hr ?_ h2
    rw [Int.natAbs_mul, ha1, hb1]
    refine Nat.le_trans (words_len_lt (k := 2048 + 2048) ?_) (by decide)
    have h3 := val_lt_len (words_isW a.m) hla
    have h4 := val_lt_len (words_isW b.m) hlb
    rw [val_words] at h3 h4
    exact Nat.lt_of_lt_of_eq (Nat.mul_lt_mul'' h3 h4) (Nat.pow_add 4294967296 2048 2048).symm
  rw [← hd]
  have HDD := Lib.hid hd
  clear hr hd
  go_enter Tryz.func49, Tryz.ntmps49
  go_wp2_with fail
  refine (HV.out _ _ _ _).mono ?_
  rintro e1 w1 ⟨rfl, hg⟩
  obtain ⟨r0, r1, r2, hw1, hsz⟩ := box4 hg
  obtain ⟨x0, x1, x2⟩ := row3 r0
  obtain ⟨x3, x4, x5⟩ := row3 r1
  have HN1 := Lib.hid (hN1.grown0 hw1)
  have HN2 := Lib.hid (hN2.grown0 hw1)
  have HW1 := Lib.hid hw1
  have R2 := Lib.hid r2
  clear r0 r1 r2 hg hw1 hN1 hN2
  go_wp2_with fail
  have k2 := rec3 R2.out
  have HR2 := Lib.hid k2
  clear k2
  have hwr : IntKind.i64.wrap (a.e + b.e) = a.e + b.e := by
    have h1 : -65536 ≤ a.e ∧ a.e ≤ 65536 := by
      rcases ho with ⟨_, h, _⟩ | ⟨_, _, h1, h2⟩
      · omega
      · exact ⟨h1, h2⟩
    have h2 : -65536 ≤ b.e ∧ b.e ≤ 65536 := by
      rcases ho2 with ⟨_, h, _⟩ | ⟨_, _, h1, h2⟩
      · omega
      · exact ⟨h1, h2⟩
    exact wrap_in (by omega) (by omega)
  have T0 : Hid (Three w1 (w.heap.size + 1 + 1)) := ⟨_, _, _, _, _, _, R2.out⟩
  have K6 : Hid (∀ w' : World, w1.grownBy w' (some (w.heap.size + 1 + 1)) → Three w' (w.heap.size + 1 + 1) → w'.cell? ⟨w.heap.size, 0, none⟩ = some (.bool a.neg) ∧ w'.cell? ⟨w.heap.size, 1, none⟩ = some (.slice A L c) ∧ w'.cell? ⟨w.heap.size, 2, none⟩ = some (.int .i64 a.e) ∧
      w'.cell? ⟨w.heap.size + 1, 0, none⟩ = some (.bool b.neg) ∧ w'.cell? ⟨w.heap.size + 1, 1, none⟩ = some (.slice A2 L2 c2) ∧ w'.cell? ⟨w.heap.size + 1, 2, none⟩ = some (.int .i64 b.e) ∧ w1.grownBy w' (some (w.heap.size + 1 + 1)) ∧ Three w' (w.heap.size + 1 + 1)) := fun w' h h3 =>
    ⟨cell_grown h (by omega) (by omega) x0, cell_grown h (by omega) (by omega) x1, cell_grown h (by omega) (by omega) x2, cell_grown h (by omega) (by omega) x3, cell_grown h (by omega) (by omega) x4, cell_grown h (by omega) (by omega) x5, h, h3⟩
  have G0 : Hid (w1.grownBy w1.drew (some (w.heap.size + 1 + 1))) := ⟨rfl, rfl, rfl, Nat.le_refl _, fun _ _ _ => rfl⟩
  have HVa : Hid (∀ W, w1.grownBy W (some (w.heap.size + 1 + 1)) → Calls Tryz.prog 79 #[.agg #[.bool a.neg, .slice A L c, .int .i64 a.e]] W fun e w' => New W a.z e w') := fun W h => by
    have := value_calls _ a.neg a.m a.e W (HN1.out.grownR h HR2.out) (Nat.le_trans hla (by decide))
    unfold NV at this
    rw [← HL.out] at this
    exact this
  have HVb : Hid (∀ W, w1.grownBy W (some (w.heap.size + 1 + 1)) → Calls Tryz.prog 79 #[.agg #[.bool b.neg, .slice A2 L2 c2, .int .i64 b.e]] W fun e w' => New W b.z e w') := fun W h => by
    have := value_calls _ b.neg b.m b.e W (HN2.out.grownR h HR2.out) (Nat.le_trans hlb (by decide))
    unfold NV at this
    rw [← HL2.out] at this
    exact this
  have HT1 : Hid (Tab w1) := fun i v hv => cell_ext HW1.out (hT i v hv)
  have hne1 : w.heap.size + 1 + 1 ≠ 1 := by omega
  have hl1 : (words a.z.natAbs).length ≤ 1073741824 := by rw [ha1]; omega
  have hl2 : (words b.z.natAbs).length ≤ 1073741824 := by rw [hb1]; omega
  have hrlt : w.heap.size + 1 + 1 < w1.heap.size := by omega
  clear ha1 hb1 hla hlb
  go_region_held3 (fun w' : World => w'.cell? ⟨w.heap.size, 0, none⟩ = some (.bool a.neg) ∧ w'.cell? ⟨w.heap.size, 1, none⟩ = some (.slice A L c) ∧ w'.cell? ⟨w.heap.size, 2, none⟩ = some (.int .i64 a.e) ∧
      w'.cell? ⟨w.heap.size + 1, 0, none⟩ = some (.bool b.neg) ∧ w'.cell? ⟨w.heap.size + 1, 1, none⟩ = some (.slice A2 L2 c2) ∧ w'.cell? ⟨w.heap.size + 1, 2, none⟩ = some (.int .i64 b.e) ∧ w1.grownBy w' (some (w.heap.size + 1 + 1)) ∧ Three w' (w.heap.size + 1 + 1))
    (first
      | exact K6.out _ G0.out T0.out
      | (go_split_ands; exact K6.out _ (grown_trans (by assumption) (grown_some hgl)) (Three.grown (by assumption) hgl (by simp)))
      | (go_split_ands; exact K6.out _ (grown_skip (by assumption) hgm (by first | exact Nat.le_refl _ | exact hs2 | exact hs3)) (Three.grown (by assumption) hgm (by intro e; injection e with e; omega)))
      | (go_split_ands; exact K6.out _ (grown_trans (by assumption) (grown_alloc _ _ _)) (Three.grown (by assumption) (grown_alloc _ _ none) (by simp)))
      | exact K6.out _ hG5 hT5
      | exact K6.out _ (grown_trans hG5 (hT5.set _ _ _ _ _).2) (hT5.set _ _ _ _ _).1)
    (first
      | (go_at_call_of 79 (Value.agg #[.bool a.neg, .slice A L c, .int .i64 a.e]); go_split_ands; refine (HVa.out _ (by assumption)).mono ?_; rintro e1 w2 ⟨ba, rfl, hba, hIa, hga⟩; have hgl := grown_of_below hga none; have hgA := Lib.hid hgl; have hs2 : w1.heap.size ≤ w2.heap.size := Nat.le_trans (World.grownBy.size (by assumption)) hga.size; have HIa := Lib.hid hIa; clear hIa)
      | (go_at_call_of 79 (Value.agg #[.bool b.neg, .slice A2 L2 c2, .int .i64 b.e]); go_split_ands; refine (HVb.out _ (by assumption)).mono ?_; rintro e1 w3 ⟨bb, rfl, hbb, hIb, hgb⟩; have hgl := grown_of_below hgb none; have hgB := Lib.hid hgl; have hs3 : w1.heap.size ≤ w3.heap.size := Nat.le_trans (World.grownBy.size (by assumption)) hgb.size; have HIb := Lib.hid hIb; clear hIb)
      | (go_at_call 84; (first
          | refine (imul_calls _ _ _ a.z b.z _ (((two_new w1 106).drew.grown0 hgA.out).grown0 hgB.out) (HIa.out.grown0 hgB.out) HIb.out hl1 hl2 (by rw [size_ad] at hba; omega) (by rw [size_ad] at hba; have := HIa.out.lt; omega)).mono ?_
          | refine (imul_calls _ _ _ a.z b.z _ ((two_new w2 106).grown0 hgB.out) ((HIa.out.alloc _).grown0 hgB.out) HIb.out hl1 hl2 (by have := HIa.out.lt; omega) (by rw [World.size_alloc] at hbb; omega)).mono ?_
          | refine (imul_calls _ _ _ a.z b.z _ (two_new w3 106) ((HIa.out.grown0 hgB.out).alloc _) (HIb.out.alloc _) hl1 hl2 (by have := (HIa.out.grown0 hgB.out).lt; omega) (by have := HIb.out.lt; omega)).mono ?_);
         rintro e1 w4 ⟨rfl, hIm, hgm⟩; clear hgl; have HIm := Lib.hid hIm; clear hIm)
      | (go_at_call 83; go_split_ands; refine (HNum.out _ _ HIm.out (HT1.out.grownR (by assumption) hne1)).mono ?_; rintro e1 w5 ⟨v5, rfl, ⟨A5, c5, rfl, hc5, hcm5, hW5⟩, hb5⟩; unfold NV; have hG5 := grown_trans (by assumption) (grown_of_below hb5 (some (w.heap.size + 1 + 1))); have hT5 := Three.grown (by assumption) (grown_of_below hb5 none) (by simp); obtain ⟨q1, q2, q3, q4, q5, y0, y1, y2, y3, y4, y5⟩ := hT5.open; have HW5 := Lib.hid hW5; clear hW5))
  all_goals
    have HB5 : Hid (Below w.heap.size w w5) := (below_of_grown0 HW1.out).trans (below_of_grown hG5 (by omega) hrlt)
    have HD5 : Hid (DDone w d (.returned (.tuple #[.agg #[.bool d.neg, .slice A5 (words d.m).length c5, .int .i64 d.e], .int .i64 0])) _) := NumDone.store hT5 hc5 hcm5 HW5.out HB5.out (by omega : w.heap.size ≤ w.heap.size + 1 + 1)
    go_wp2
    refine bodyPost_ret (v := .tuple #[.agg #[.bool d.neg, .slice A5 (words d.m).length c5, .int .i64 d.e], .int .i64 0]) ?_ rfl HD5.out
    simp [results, Tryz.results49, go_sem, *]
end Go.Proofs.YtjbdadhggejoiaaGreatDoor

namespace Go.Proofs.YtjbdadhggejoiaaGreatDoor
open Go.RowKit
set_option maxRecDepth 100000

def dneg (a : Dy) : Dy := if a.m = 0 then ⟨false, 0, 0⟩ else ⟨!a.neg, a.m, a.e⟩
/-- what a call leaves that makes a number of the program -/
def VDone (w : World) (d : Dy) (en : Ending) (w' : World) : Prop := ∃ v, en = .returned v ∧ DR w' v d ∧ Below w.heap.size w w'
theorem box2 {w w1 : World} {o1 o2 : Obj} (hg : ((w.alloc o1).alloc o2).grownBy w1 none) :
    w1.heap[w.heap.size]? = some o1 ∧ w1.heap[w.heap.size + 1]? = some o2 ∧ w.grownBy w1 none ∧ w.heap.size + 2 ≤ w1.heap.size := by
  have hs := hg.size
  simp only [World.size_alloc] at hs
  exact ⟨heap_grown (heap_old (heap_at rfl)) hg, heap_grown (heap_at (by simp)) hg, grown_trans (grown_trans (grown_alloc _ _ _) (grown_alloc _ _ _)) hg, by omega⟩
theorem u_all (l : List Nat) : ∀ u ∈ uCells l, u.oneCell' = true := by
  intro u hu
  simp only [uCells, List.mem_map] at hu
  obtain ⟨x, _, rfl⟩ := hu
  rfl
theorem VDone.store {w w5 : World} {r : Nat} {d : Dy} {A : Option Addr} {c : Nat} (h3 : Three w5 r) (hc : (words d.m).length ≤ c) (hcm : c ≤ maxLen) (hW : Ws w5 w5.heap.size A (words d.m)) (hb : Below w.heap.size w w5) (hr : w.heap.size ≤ r) :
    VDone w d (.returned (.agg #[.bool d.neg, .slice A (words d.m).length c, .int .i64 d.e])) (((w5.setCell ⟨r, 0, none⟩ (.bool d.neg)).setCell ⟨r, 1, none⟩ (.slice A (words d.m).length c)).setCell ⟨r, 2, none⟩ (.int .i64 d.e)) :=
  ⟨_, rfl, ⟨A, c, rfl, hc, hcm, by simpa using hW.set3 h3 d.neg A (words d.m).length c d.e⟩, ((hb.setCell (by exact hr) _).setCell (by exact hr) _).setCell (by exact hr) _⟩

set_option maxHeartbeats 4000000 in
theorem dneg_calls (v : Value) (a : Dy) (w : World) (hv : DR w v a) (ho : a.ok) :
    Calls Tryz.prog 151 #[v] w fun en w' => VDone w (dneg a) en w' := by
  have hV := fun o o2 => dvalid_calls v a.neg a.m a.e ((w.alloc o).alloc o2) ((NR.grown0 hv (grown_alloc _ _ _)).grown0 (grown_alloc _ _ _)) ho
  obtain ⟨A, c, rfl, hc, hcm, hW⟩ := hv
  have hN1 : NR w (NV a.neg A (words a.m).length c a.e) a.neg a.m a.e := ⟨A, c, rfl, hc, hcm, hW⟩
  unfold NV at hV ⊢
  have hz := lenZ a.m
  have hla := ho.len
  obtain ⟨L, hL⟩ : ∃ L, L = (words a.m).length := ⟨_, rfl⟩
  simp only [← hL] at hV hz hc ⊢
  have HL := Lib.hid hL
  have HV := Lib.hid hV
  clear hV hL
  unfold dneg
  by_cases hm : a.m = 0
  · rw [if_pos hm]
    rw [decide_eq_true hm] at hz
    clear hW hN1 hm
    go_enter Tryz.func151, Tryz.ntmps151
    go_wp2_with fail
    refine (HV.out _ _).mono ?_
    rintro e1 w1 ⟨rfl, hg⟩
    obtain ⟨r0, r1, hw1, hsz⟩ := box2 hg
    obtain ⟨x0, x1, x2⟩ := row3 r0
    obtain ⟨x3, x4, x5⟩ := row3 r1
    obtain ⟨y3, y4, y5⟩ := froz3 r1
    have T1 : Hid (Three w1 (w.heap.size + 1)) := ⟨_, _, _, _, _, _, r1⟩
    have HW1 := Lib.hid hw1
    clear hg r0 r1 hw1
    go_wp2
    refine bodyPost_ret (v := .agg #[.bool false, .slice none 0 0, .int .i64 0]) ?_ rfl (VDone.store (d := ⟨false, 0, 0⟩) (w5 := w1) T1.out (Nat.le_refl _) (by decide) Ws.nil (below_of_grown0 HW1.out) (by omega))
    simp [results, Tryz.results151, go_sem, *]
  · rw [if_neg hm]
    rw [decide_eq_false hm] at hz
    have he : -65536 ≤ a.e ∧ a.e ≤ 65536 := by
      rcases ho with ⟨h, _⟩ | ⟨_, _, h1, h2⟩
      · exact absurd h hm
      · exact ⟨h1, h2⟩
    have hLp : 0 < L := by
      rw [HL.out]
      have := lenZ a.m
      rw [decide_eq_false hm, beq_eq_false_iff_ne] at this
      omega
    have HW := Lib.hid hW
    have HN := Lib.hid hN1
    obtain ⟨i0, hi0, hz0, hz1, hz2⟩ := info_parts wordInfo
    clear hW hN1 hm hla
    go_enter Tryz.func151, Tryz.ntmps151
    go_wp2_with fail
    refine (HV.out _ _).mono ?_
    rintro e1 w1 ⟨rfl, hg⟩
    obtain ⟨r0, r1, hw1, hsz⟩ := box2 hg
    obtain ⟨x0, x1, x2⟩ := row3 r0
    have T1 : Hid (Three w1 (w.heap.size + 1)) := ⟨_, _, _, _, _, _, r1⟩
    have HW1 := Lib.hid hw1
    clear hg r0 r1 hw1
    obtain ⟨ad, hA, _, _⟩ := HW.out.at_ 0 (by rw [← HL.out]; exact hLp)
    subst hA
    have hcl : ∀ (j : Nat) (u : Value), (uCells (words a.m))[j]? = some u → ((w1.alloc (.cells #[] 51)).drew).cell? (ad.add j) = some u := fun j u hu => by
      obtain ⟨A', c', hv', _, _, hW'⟩ := (HN.out.grown0 HW1.out).grown0 (grown_alloc w1 (.cells #[] 51) none)
      unfold NV at hv'
      simp only [Value.agg.injEq] at hv'
      obtain ⟨ad2, e2, _, hc2⟩ := hW'.2 (by rw [← HL.out]; exact hLp)
      simp at hv'
      rw [← hv'.1] at e2
      injection e2 with e2
      subst e2
      exact hc2 j u hu
    have HC := Lib.hid hcl
    clear hcl
    have K6 : Hid (∀ w' : World, w1.grownBy w' (some (w.heap.size + 1)) → Three w' (w.heap.size + 1) → w'.cell? ⟨w.heap.size, 0, none⟩ = some (.bool a.neg) ∧ w'.cell? ⟨w.heap.size, 1, none⟩ = some (.slice (some ad) L c) ∧ w'.cell? ⟨w.heap.size, 2, none⟩ = some (.int .i64 a.e) ∧
        w1.grownBy w' (some (w.heap.size + 1)) ∧ Three w' (w.heap.size + 1)) := fun w' h h3 =>
      ⟨cell_grown h (by omega) (by omega) x0, cell_grown h (by omega) (by omega) x1, cell_grown h (by omega) (by omega) x2, h, h3⟩
    have G0 : Hid (w1.grownBy w1.drew (some (w.heap.size + 1))) := ⟨rfl, rfl, rfl, Nat.le_refl _, fun _ _ _ => rfl⟩
    have hrlt : w.heap.size + 1 < w1.heap.size := by omega
    have huc : (uCells (words a.m)).length = L * 1 := by rw [uCells_len, ← HL.out, Nat.mul_one]
    have HUC := Lib.hid huc
    have hLb : L ≤ 2048 := by rw [HL.out]; exact ho.len
    clear huc
    go_wp2_with fail
    go_region_held3 (fun w' : World => w'.cell? ⟨w.heap.size, 0, none⟩ = some (.bool a.neg) ∧ w'.cell? ⟨w.heap.size, 1, none⟩ = some (.slice (some ad) L c) ∧ w'.cell? ⟨w.heap.size, 2, none⟩ = some (.int .i64 a.e) ∧ w1.grownBy w' (some (w.heap.size + 1)) ∧ Three w' (w.heap.size + 1))
      (first
        | exact K6.out _ G0.out T1.out
        | (exact K6.out _ hG5 hT5)
        | exact K6.out _ (grown_trans hG5 (hT5.set _ _ _ _ _).2) (hT5.set _ _ _ _ _).1
        | (go_split_ands; exact K6.out _ (grown_trans (by assumption) (grown_alloc _ _ _)) (Three.grown (by assumption) (grown_alloc _ _ none) (by simp))))
      ((refine step_append_lies _ (by rfl) (.tmp 16) (.tmp 18) 28 (by rfl) w1.heap.size 51 i0 _ 1 4 Tryz.underlying28 hi0 hz0 hz1 hz2 rfl (by omega) _ 0 [] (by rfl) (World.ownsRow_made w1 #[] 0 (Nat.le_refl _) (Nat.zero_le _) rfl) ad L c (uCells (words a.m)) (by rfl) HUC.out HC.out (u_all _) hLp (by simp only [maxLen]; omega) (by omega) (by rw [size_ad]; omega) (w1.heap.size + 1) (by rw [size_ad]) ?_; intro gg cap w3 hown1 hgrow hat hlt; go_split_ands;
        have hG5 := grown_skip (w := w1) (by assumption) hgrow (Nat.le_refl _);
        have hT5 := Three.grown (b := w.heap.size + 1) (by assumption) hgrow (by simp only [Value.ownBlock, ne_eq, Option.some.injEq]; omega);
        obtain ⟨q1, q2, q3, q4, q5, y0, y1, y2, y3, y4, y5⟩ := hT5.open))
    obtain ⟨Y, cy, hYe, hcy, hcmy, hY⟩ := own_slice1 hown1
    obtain ⟨rfl, rfl⟩ : Y = some ⟨gg, 0, none⟩ ∧ cap = cy := by
      injection hYe with h1 h2 h3
      exact ⟨h1.symm, h3⟩
    have hY2 : Ws w3 w3.heap.size (some ⟨gg, 0, none⟩) (words a.m) := by
      unfold Ws
      rw [← HL.out]
      simpa using hY
    have HB5 : Hid (Below w.heap.size w w3) := (below_of_grown0 HW1.out).trans (below_of_grown hG5 (by omega) hrlt)
    have hD := VDone.store (w := w) (d := ⟨!a.neg, a.m, a.e⟩) hT5 (A := some ⟨gg, 0, none⟩) (c := cap) (by show (words a.m).length ≤ cap; rw [← HL.out]; omega) hcmy hY2 HB5.out (by omega : w.heap.size ≤ w.heap.size + 1)
    have hD2 : VDone w ⟨!a.neg, a.m, a.e⟩ (.returned (.agg #[.bool (!a.neg), .slice (some ⟨gg, 0, none⟩) L cap, .int .i64 a.e])) (((w3.setCell ⟨w.heap.size + 1, 0, none⟩ (.bool (!a.neg))).setCell ⟨w.heap.size + 1, 1, none⟩ (.slice (some ⟨gg, 0, none⟩) L cap)).setCell ⟨w.heap.size + 1, 2, none⟩ (.int .i64 a.e)) := by
      have := hD
      simp only [← HL.out] at this
      exact this
    have HD := Lib.hid hD2
    clear hD hD2 hY hY2 hYe hown1
    go_wp2
    refine bodyPost_ret (v := .agg #[.bool (!a.neg), .slice (some ⟨gg, 0, none⟩) L cap, .int .i64 a.e]) ?_ rfl HD.out
    simp [results, Tryz.results151, go_sem, *]
end Go.Proofs.YtjbdadhggejoiaaGreatDoor
