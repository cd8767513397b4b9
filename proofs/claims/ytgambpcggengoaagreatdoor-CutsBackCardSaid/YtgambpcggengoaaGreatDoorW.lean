/- Words on memory: what a slice reads as; a list of cuts in memory. -/
import Derived.Below
import Derived.Laws.OwnMore
import Derived.Deep.AppendLies
import Derived.Deep.Draws
import Derived.Maps.AppendAt
import Derived.RegionTactic
import Derived.OwnWalk
namespace Go.Proofs.YtgambpcggengoaaGreatDoor
open Go.RowKit

theorem addr_block (a : Addr) (n : Nat) : (a.add n).block = a.block := by unfold Addr.add; split <;> rfl
theorem addr_add (a : Addr) (i j : Nat) : (a.add i).add j = a.add (i + j) := by
  unfold Addr.add
  by_cases hi : i = 0 <;> by_cases hj : j = 0 <;> simp [hi, hj, Nat.add_assoc]
theorem addr_next (a : Addr) (i j : Nat) (hj : 0 < j) : (⟨(a.add i).block, (a.add i).off + j, none⟩ : Addr) = a.add (i + j) := by
  have hij : ¬ (i + j = 0) := by omega
  by_cases hi : i = 0
  · subst hi; simp [Addr.add, hij, Nat.ne_of_gt hj]
  · simp [Addr.add, hij, hi, Nat.add_assoc]

/-- The slice value '.slice A n c' holds the cells xs ('sz' a piece), in blocks below B. -/
def Rds (w : World) (B sz : Nat) (A : Option Addr) (n : Nat) (xs : List Value) : Prop :=
  xs.length = n * sz ∧ (0 < n → ∃ ad, A = some ad ∧ ad.block < B ∧ ∀ j u, xs[j]? = some u → w.cell? (ad.add j) = some u)

section
variable {w w' : World} {B B' sz n : Nat} {A : Option Addr} {xs : List Value}
theorem Rds.zero : Rds w B sz A 0 [] := ⟨by simp, fun h => absurd h (by omega)⟩
theorem Rds.keep (h : Rds w B sz A n xs) (hk : ∀ p : Addr, p.block < B → w'.cell? p = w.cell? p) : Rds w' B sz A n xs :=
  ⟨h.1, fun hn => by
    obtain ⟨ad, e, hb, hc⟩ := h.2 hn
    exact ⟨ad, e, hb, fun j u hu => (hk _ (by rw [addr_block]; exact hb)).trans (hc j u hu)⟩⟩
theorem Rds.more (h : Rds w B sz A n xs) (hB : B ≤ B') : Rds w B' sz A n xs :=
  ⟨h.1, fun hn => by
    obtain ⟨ad, e, hb, hc⟩ := h.2 hn
    exact ⟨ad, e, by omega, hc⟩⟩
theorem Rds.below (h : Rds w B sz A n xs) {C : Nat} (hb : Below C w w') (hC : B ≤ C) : Rds w' B sz A n xs := h.keep fun _ hp => hb.cell (by omega)
theorem Rds.cut (h : Rds w B sz A n xs) {k cap : Nat} (hk : k ≤ n) (hc : n ≤ cap) :
    Rds w B sz (if cap = k then A else A.map (·.add (k * sz))) (n - k) (xs.drop (k * sz)) := by
  refine ⟨by rw [List.length_drop, h.1, Nat.sub_mul], fun hn => ?_⟩
  obtain ⟨ad, rfl, hb, hcell⟩ := h.2 (by omega)
  rw [if_neg (by omega)]
  refine ⟨ad.add (k * sz), rfl, by rw [addr_block]; exact hb, fun j u hu => ?_⟩
  rw [addr_add]
  exact hcell _ u (by rw [← hu, List.getElem?_drop])
theorem Rds.own {base : Nat} {e : TypeId} {c : Nat} (h : w.ownsRow base e sz (.slice A n c) n xs) : Rds w w.heap.size sz A n xs := by
  refine ⟨h.1, fun hn => ?_⟩
  obtain ⟨g, cap, hv, _, hlt⟩ := h.form hn
  have hA : A = some ⟨g, 0, none⟩ := by injection hv
  subst hA
  exact ⟨_, rfl, hlt, h.cells (g := g) rfl⟩
end

/-- A list of cuts, cell by cell. -/
def cutCells (l : List (Int × Int)) : List Value := l.flatMap fun c => [.int .i64 c.1, .int .i64 c.2]
theorem cutCells_len (l : List (Int × Int)) : (cutCells l).length = l.length * 2 := by
  induction l with
  | nil => rfl
  | cons c l ih => simp only [cutCells, List.flatMap_cons, List.length_append, List.length_cons, List.length_nil] at *; omega
theorem cutCells_cons (c : Int × Int) (l : List (Int × Int)) : cutCells (c :: l) = .int .i64 c.1 :: .int .i64 c.2 :: cutCells l := rfl
theorem cutCells_append (l m : List (Int × Int)) : cutCells (l ++ m) = cutCells l ++ cutCells m := by simp [cutCells, List.flatMap_append]
theorem cutCells_drop (l : List (Int × Int)) (k : Nat) : (cutCells l).drop (k * 2) = cutCells (l.drop k) := by
  induction l generalizing k with
  | nil => simp [cutCells]
  | cons c l ih =>
    cases k with
    | zero => rfl
    | succ k => rw [cutCells_cons, Nat.succ_mul, List.drop_succ_cons, List.drop_succ_cons, ih]; rfl
theorem cutCells_get : ∀ (l : List (Int × Int)) (i : Nat) (h : i < l.length), (cutCells l)[i * 2]? = some (.int .i64 l[i].1) ∧ (cutCells l)[i * 2 + 1]? = some (.int .i64 l[i].2)
  | c :: l, 0, _ => ⟨rfl, rfl⟩
  | c :: l, i + 1, h => by
    have := cutCells_get l i (by simpa using h)
    rw [cutCells_cons, Nat.succ_mul]
    exact this
theorem cutCells_one (l : List (Int × Int)) : ∀ u ∈ cutCells l, u.oneCell' = true := by
  intro u hu
  simp only [cutCells, List.mem_flatMap] at hu
  obtain ⟨c, _, hc⟩ := hu
  simp at hc
  rcases hc with rfl | rfl <;> rfl

/-- '.slice A l.length _' reads as the cuts l. -/
def Cuts (w : World) (B : Nat) (A : Option Addr) (l : List (Int × Int)) : Prop := Rds w B 2 A l.length (cutCells l)
section
variable {w w' : World} {B B' : Nat} {A : Option Addr} {l : List (Int × Int)}
theorem Cuts.at_ (h : Cuts w B A l) (i : Nat) (hi : i < l.length) : ∃ ad, A = some ad ∧ ad.block < B ∧ w.cell? (ad.add (i * 2)) = some (.int .i64 l[i].1) ∧
    w.cell? ⟨(ad.add (i * 2)).block, (ad.add (i * 2)).off + 1, none⟩ = some (.int .i64 l[i].2) := by
  obtain ⟨ad, e, hb, hc⟩ := h.2 (by omega)
  obtain ⟨h1, h2⟩ := cutCells_get l i hi
  exact ⟨ad, e, hb, hc _ _ h1, by rw [addr_next ad _ 1 (by omega)]; exact hc _ _ h2⟩
theorem Cuts.below (h : Cuts w B A l) {C : Nat} (hb : Below C w w') (hC : B ≤ C) : Cuts w' B A l := Rds.below h hb hC
theorem Cuts.more (h : Cuts w B A l) (hB : B ≤ B') : Cuts w B' A l := Rds.more h hB
theorem Cuts.cut (h : Cuts w B A l) {k cap : Nat} (hk : k ≤ l.length) (hc : l.length ≤ cap) :
    Cuts w B (if cap = k then A else A.map (·.add (k * 2))) (l.drop k) := by
  have := Rds.cut h hk hc
  rw [cutCells_drop] at this
  unfold Cuts
  rwa [List.length_drop]
theorem Cuts.head {f s : Int} (h : Cuts w B A ((f, s) :: l)) : ∃ ad, A = some ad ∧ ad.block < B ∧ w.cell? ad = some (.int .i64 f) ∧ w.cell? ⟨ad.block, ad.off + 1, none⟩ = some (.int .i64 s) := by
  obtain ⟨ad, e, hb, h1, h2⟩ := h.at_ 0 (by simp)
  rw [Nat.zero_mul, show ∀ a : Addr, a.add 0 = a from fun _ => rfl] at h1 h2
  exact ⟨ad, e, hb, h1, h2⟩
theorem Cuts.tail {c : Int × Int} (h : Cuts w B A (c :: l)) {n cap : Nat} (hn : l.length + 1 = n) (hc : n ≤ cap) : Cuts w B (if cap = 1 then A else A.map (·.add 2)) l := by
  have := Cuts.cut (cap := cap) (k := 1) h (by simp) (by simp; omega)
  simpa using this
theorem Cuts.nil : Cuts w B A [] := Rds.zero
end
theorem news_next (cs : Array Value) (t : TypeId) {w : World} {B : Nat} (h : w.heap.size = B) : ∀ j u, cs.toList[j]? = some u → (w.alloc (.cells cs t)).cell? ((⟨B, 0, none⟩ : Addr).add j) = some u := by
  subst h
  exact World.news_of_block (cs := cs) (t := t) (fr := (0, 0)) (heap_alloc_new _ _)
end Go.Proofs.YtgambpcggengoaaGreatDoor
