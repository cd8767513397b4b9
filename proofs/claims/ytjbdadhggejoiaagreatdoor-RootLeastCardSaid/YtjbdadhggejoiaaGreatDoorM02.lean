/- Words on memory: what a slice reads as; a list of cuts in memory.
   Whole numbers as words to the base 2^32, the lowest first. -/
import Derived.Below
import Derived.Laws.OwnMore
import Derived.Deep.AppendLies
import Derived.Deep.Draws
import Derived.Maps.AppendAt
import Derived.RegionTactic
import Derived.OwnWalk

namespace Go.Proofs.YtjbdadhggejoiaaGreatDoor
open Go.RowKit

theorem addr_block (a : Addr) (n : Nat) : (a.add n).block = a.block := by unfold Addr.add; split <;> rfl
theorem addr_add (a : Addr) (i j : Nat) : (a.add i).add j = a.add (i + j) := by
  unfold Addr.add
  by_cases hi : i = 0 <;> by_cases hj : j = 0 <;> simp [hi, hj, Nat.add_assoc]
theorem addr_next (a : Addr) (i j : Nat) (hj : 0 < j) : (⟨(a.add i).block, (a.add i).off + j, none⟩ : Addr) = a.add (i + j) := by
  have hij : ¬ (i + j = 0) := by omega
  by_cases hi : i = 0
  · subst hi; simp [Addr.add, hij, Nat.ne_of_gt hj]
  · simp [Addr.add, hij, hi, Nat.add_assoc]

/-- The slice value '.slice A n c' holds the cells xs ('sz' a piece), in blocks below B. -/
def Rds (w : World) (B sz : Nat) (A : Option Addr) (n : Nat) (xs : List Value) : Prop :=
  xs.length = n * sz ∧ (0 < n → ∃ ad, A = some ad ∧ ad.block < B ∧ ∀ j u, xs[j]? = some u → w.cell? (ad.add j) = some u)

section
variable {w w' : World} {B B' sz n : Nat} {A : Option Addr} {xs : List Value}
theorem Rds.zero : Rds w B sz A 0 [] := ⟨by simp, fun h => absurd h (by omega)⟩
theorem Rds.keep (h : Rds w B sz A n xs) (hk : ∀ p : Addr, p.block < B → w'.cell? p = w.cell? p) : Rds w' B sz A n xs :=
  ⟨h.1, fun hn => by
    obtain ⟨ad, e, hb, hc⟩ := h.2 hn
    exact ⟨ad, e, hb, fun j u hu => (hk _ (by rw [addr_block]; exact hb)).trans (hc j u hu)⟩⟩
theorem Rds.more (h : Rds w B sz A n xs) (hB : B ≤ B') : Rds w B' sz A n xs :=
  ⟨h.1, fun hn => by
    obtain ⟨ad, e, hb, hc⟩ := h.2 hn
    exact ⟨ad, e, by omega, hc⟩⟩
theorem Rds.below (h : Rds w B sz A n xs) {C : Nat} (hb : Below C w w') (hC : B ≤ C) : Rds w' B sz A n xs := h.keep fun _ hp => hb.cell (by omega)
theorem Rds.cut (h : Rds w B sz A n xs) {k cap : Nat} (hk : k ≤ n) (hc : n ≤ cap) :
    Rds w B sz (if cap = k then A else A.map (·.add (k * sz))) (n - k) (xs.drop (k * sz)) := by
  refine ⟨by rw [List.length_drop, h.1, Nat.sub_mul], fun hn => ?_⟩
  obtain ⟨ad, rfl, hb, hcell⟩ := h.2 (by omega)
  rw [if_neg (by omega)]
  refine ⟨ad.add (k * sz), rfl, by rw [addr_block]; exact hb, fun j u hu => ?_⟩
  rw [addr_add]
  exact hcell _ u (by rw [← hu, List.getElem?_drop])
theorem Rds.own {base : Nat} {e : TypeId} {c : Nat} (h : w.ownsRow base e sz (.slice A n c) n xs) : Rds w w.heap.size sz A n xs := by
  refine ⟨h.1, fun hn => ?_⟩
  obtain ⟨g, cap, hv, _, hlt⟩ := h.form hn
  have hA : A = some ⟨g, 0, none⟩ := by injection hv
  subst hA
  exact ⟨_, rfl, hlt, h.cells (g := g) rfl⟩
end

/-- A list of cuts, cell by cell. -/
def cutCells (l : List (Int × Int)) : List Value := l.flatMap fun c => [.int .i64 c.1, .int .i64 c.2]
theorem cutCells_len (l : List (Int × Int)) : (cutCells l).length = l.length * 2 := by
  induction l with
  | nil => rfl
  | cons c l ih => simp only [cutCells, List.flatMap_cons, List.length_append, List.length_cons, List.length_nil] at *; omega
theorem cutCells_cons (c : Int × Int) (l : List (Int × Int)) : cutCells (c :: l) = .int .i64 c.1 :: .int .i64 c.2 :: cutCells l := rfl
theorem cutCells_append (l m : List (Int × Int)) : cutCells (l ++ m) = cutCells l ++ cutCells m := by simp [cutCells, List.flatMap_append]
theorem cutCells_drop (l : List (Int × Int)) (k : Nat) : (cutCells l).drop (k * 2) = cutCells (l.drop k) := by
  induction l generalizing k with
  | nil => simp [cutCells]
  | cons c l ih =>
    cases k with
    | zero => rfl
    | succ k => rw [cutCells_cons, Nat.succ_mul, List.drop_succ_cons, List.drop_succ_cons, ih]; rfl
theorem cutCells_get : ∀ (l : List (Int × Int)) (i : Nat) (h : i < l.length), (cutCells l)[i * 2]? = some (.int .i64 l[i].1) ∧ (cutCells l)[i * 2 + 1]? = some (.int .i64 l[i].2)
  | c :: l, 0, _ => ⟨rfl, rfl⟩
  | c :: l, i + 1, h => by
    have := cutCells_get l i (by simpa using h)
    rw [cutCells_cons, Nat.succ_mul]
    exact this
theorem cutCells_one (l : List (Int × Int)) : ∀ u ∈ cutCells l, u.oneCell' = true := by
  intro u hu
  simp only [cutCells, List.mem_flatMap] at hu
  obtain ⟨c, _, hc⟩ := hu
  simp at hc
  rcases hc with rfl | rfl <;> rfl

/-- '.slice A l.length _' reads as the cuts l. -/
def Cuts (w : World) (B : Nat) (A : Option Addr) (l : List (Int × Int)) : Prop := Rds w B 2 A l.length (cutCells l)
section
variable {w w' : World} {B B' : Nat} {A : Option Addr} {l : List (Int × Int)}
theorem Cuts.at_ (h : Cuts w B A l) (i : Nat) (hi : i < l.length) : ∃ ad, A = some ad ∧ ad.block < B ∧ w.cell? (ad.add (i * 2)) = some (.int .i64 l[i].1) ∧
    w.cell? ⟨(ad.add (i * 2)).block, (ad.add (i * 2)).off + 1, none⟩ = some (.int .i64 l[i].2) := by
  obtain ⟨ad, e, hb, hc⟩ := h.2 (by omega)
  obtain ⟨h1, h2⟩ := cutCells_get l i hi
  exact ⟨ad, e, hb, hc _ _ h1, by rw [addr_next ad _ 1 (by omega)]; exact hc _ _ h2⟩
theorem Cuts.below (h : Cuts w B A l) {C : Nat} (hb : Below C w w') (hC : B ≤ C) : Cuts w' B A l := Rds.below h hb hC
theorem Cuts.more (h : Cuts w B A l) (hB : B ≤ B') : Cuts w B' A l := Rds.more h hB
theorem Cuts.cut (h : Cuts w B A l) {k cap : Nat} (hk : k ≤ l.length) (hc : l.length ≤ cap) :
    Cuts w B (if cap = k then A else A.map (·.add (k * 2))) (l.drop k) := by
  have := Rds.cut h hk hc
  rw [cutCells_drop] at this
  unfold Cuts
  rwa [List.length_drop]
theorem Cuts.head {f s : Int} (h : Cuts w B A ((f, s) :: l)) : ∃ ad, A = some ad ∧ ad.block < B ∧ w.cell? ad = some (.int .i64 f) ∧ w.cell? ⟨ad.block, ad.off + 1, none⟩ = some (.int .i64 s) := by
  obtain ⟨ad, e, hb, h1, h2⟩ := h.at_ 0 (by simp)
  rw [Nat.zero_mul, show ∀ a : Addr, a.add 0 = a from fun _ => rfl] at h1 h2
  exact ⟨ad, e, hb, h1, h2⟩
theorem Cuts.tail {c : Int × Int} (h : Cuts w B A (c :: l)) {n cap : Nat} (hn : l.length + 1 = n) (hc : n ≤ cap) : Cuts w B (if cap = 1 then A else A.map (·.add 2)) l := by
  have := Cuts.cut (cap := cap) (k := 1) h (by simp) (by simp; omega)
  simpa using this
theorem Cuts.nil : Cuts w B A [] := Rds.zero
end
theorem news_next (cs : Array Value) (t : TypeId) {w : World} {B : Nat} (h : w.heap.size = B) : ∀ j u, cs.toList[j]? = some u → (w.alloc (.cells cs t)).cell? ((⟨B, 0, none⟩ : Addr).add j) = some u := by
  subst h
  exact World.news_of_block (cs := cs) (t := t) (fr := (0, 0)) (heap_alloc_new _ _)
end Go.Proofs.YtjbdadhggejoiaaGreatDoor

namespace Go.Proofs.YtjbdadhggejoiaaGreatDoor
open Go.RowKit

def IsW (l : List Nat) : Prop := ∀ x ∈ l, x < 4294967296
def val : List Nat → Nat
  | [] => 0
  | x :: l => x + 4294967296 * val l
def wordsF : Nat → Nat → List Nat
  | 0, _ => []
  | k + 1, n => if n = 0 then [] else n % 4294967296 :: wordsF k (n / 4294967296)
def words (n : Nat) : List Nat := wordsF n n

theorem wordsF_fuel : ∀ (k j n : Nat), n ≤ k → n ≤ j → wordsF k n = wordsF j n
  | 0, 0, n, _, _ => rfl
  | 0, j + 1, n, h, _ => by
    have : n = 0 := by omega
    simp [wordsF, this]
  | k + 1, 0, n, _, h => by
    have : n = 0 := by omega
    simp [wordsF, this]
  | k + 1, j + 1, n, h1, h2 => by
    unfold wordsF
    by_cases h0 : n = 0
    · rw [if_pos h0, if_pos h0]
    · rw [if_neg h0, if_neg h0, wordsF_fuel k j (n / 4294967296) (by omega) (by omega)]
theorem words_zero : words 0 = [] := rfl
theorem words_step {n : Nat} (h : n ≠ 0) : words n = n % 4294967296 :: words (n / 4294967296) := by
  unfold words
  obtain ⟨k, rfl⟩ : ∃ k, n = k + 1 := ⟨n - 1, by omega⟩
  rw [wordsF, if_neg h, wordsF_fuel k ((k + 1) / 4294967296) _ (by omega) (Nat.le_refl _)]
theorem words_isW (n : Nat) : IsW (words n) := by
  induction n using Nat.strongRecOn with
  | _ n ih =>
    by_cases h : n = 0
    · subst h; intro x hx; cases hx
    · rw [words_step h]
      intro x hx
      rcases List.mem_cons.1 hx with rfl | hx
      · omega
      · exact ih _ (by omega) x hx
theorem val_words (n : Nat) : val (words n) = n := by
  induction n using Nat.strongRecOn with
  | _ n ih =>
    by_cases h : n = 0
    · subst h; rfl
    · rw [words_step h, val, ih _ (by omega)]
      omega
/-- no word of nought at the end -/
def Canon (l : List Nat) : Prop := IsW l ∧ ∀ (h : l ≠ []), l.getLast h ≠ 0
theorem IsW.tail {x : Nat} {l : List Nat} (h : IsW (x :: l)) : IsW l := fun y hy => h y (by simp [hy])
theorem Canon.tail {x : Nat} {l : List Nat} (h : Canon (x :: l)) : Canon l :=
  ⟨h.1.tail, fun hl => by
    have := h.2 (by simp)
    rwa [List.getLast_cons hl] at this⟩
theorem val_pos : ∀ {l : List Nat}, Canon l → l ≠ [] → val l ≠ 0
  | [], _, h => absurd rfl h
  | [x], h, _ => by
    have := h.2 (by simp)
    simp only [List.getLast_singleton] at this
    simp [val]; exact this
  | x :: y :: l, h, _ => by
    have := val_pos h.tail (by simp)
    rw [val]
    omega
theorem canon_words : ∀ {l : List Nat}, Canon l → words (val l) = l
  | [], _ => rfl
  | x :: l, h => by
    have hx := h.1 x (by simp)
    have hv := val_pos h (by simp)
    rw [words_step hv, val]
    have e1 : (x + 4294967296 * val l) % 4294967296 = x := by omega
    have e2 : (x + 4294967296 * val l) / 4294967296 = val l := by omega
    rw [e1, e2, canon_words h.tail]
theorem val_append : ∀ (a b : List Nat), val (a ++ b) = val a + 4294967296 ^ a.length * val b
  | [], b => by simp [val]
  | x :: a, b => by
    rw [List.cons_append, val, val, val_append a b, List.length_cons, Nat.pow_succ, Nat.mul_add]
    have : 4294967296 ^ a.length * 4294967296 * val b = 4294967296 * (4294967296 ^ a.length * val b) := by
      rw [Nat.mul_comm (4294967296 ^ a.length) 4294967296, Nat.mul_assoc]
    omega
theorem val_zeros : ∀ (k : Nat), val (List.replicate k 0) = 0
  | 0 => rfl
  | k + 1 => by rw [List.replicate_succ, val, val_zeros k]
theorem val_lt : ∀ {l : List Nat}, IsW l → val l < 4294967296 ^ l.length
  | [], _ => by simp [val]
  | x :: l, h => by
    have hx := h x (by simp)
    have := val_lt h.tail
    rw [val, List.length_cons, Nat.pow_succ, Nat.mul_comm]
    have h1 : 4294967296 * val l + 4294967296 ≤ 4294967296 * 4294967296 ^ l.length := by
      rw [← Nat.mul_succ]
      exact Nat.mul_le_mul_left _ this
    omega
/-- cut where nought words alone follow -/
theorem take_words {l : List Nat} {k : Nat} (hw : IsW l) (hk : k ≤ l.length) (h0 : ∀ i (h : i < l.length), k ≤ i → l[i] = 0) (hl : ∀ (h : 0 < k), l[k - 1]'(by omega) ≠ 0) : l.take k = words (val l) := by
  have hd : l.drop k = List.replicate (l.length - k) 0 := by
    apply List.ext_getElem
    · simp
    · intro i h1 h2
      rw [List.getElem_drop, List.getElem_replicate]
      exact h0 _ (by rw [List.length_drop] at h1; omega) (by omega)
  have hv : val l = val (l.take k) := by
    conv => lhs; rw [← List.take_append_drop k l]
    rw [val_append, hd, val_zeros]; simp
  rw [hv]
  refine (canon_words ⟨fun x hx => hw x (List.mem_of_mem_take hx), fun hne => ?_⟩).symm
  have hk0 : 0 < k := by
    rcases Nat.eq_zero_or_pos k with rfl | h
    · simp at hne
    · exact h
  have := hl hk0
  rw [List.getLast_eq_getElem]
  simpa [List.getElem_take, Nat.min_eq_left hk] using this
theorem canon_of (n : Nat) : Canon (words n) := by
  refine ⟨words_isW n, ?_⟩
  induction n using Nat.strongRecOn with
  | _ n ih =>
    by_cases h : n = 0
    · subst h; intro hl; exact absurd rfl hl
    · rw [words_step h]
      intro hl
      by_cases h2 : n / 4294967296 = 0
      · have e : words (n / 4294967296) = [] := by rw [h2]; rfl
        simp only [e, List.getLast_singleton]
        omega
      · have hne : words (n / 4294967296) ≠ [] := by rw [words_step h2]; simp
        rw [List.getLast_cons hne]
        exact ih _ (by omega) hne
theorem val_ge : ∀ {l : List Nat}, Canon l → l ≠ [] → 4294967296 ^ (l.length - 1) ≤ val l
  | [], _, h => absurd rfl h
  | [x], h, _ => by
    have := val_pos h (by simp)
    simp only [List.length_singleton, Nat.sub_self, Nat.pow_zero]
    omega
  | x :: y :: l, h, _ => by
    have := val_ge h.tail (by simp)
    rw [val]
    simp only [List.length_cons, Nat.add_sub_cancel] at *
    rw [Nat.pow_succ, Nat.mul_comm]
    have := Nat.mul_le_mul_left 4294967296 this
    omega
theorem words_lt {n m : Nat} (h : (words n).length < (words m).length) : n < m := by
  have h1 := val_lt (words_isW n)
  have h2 := val_ge (canon_of m) (fun e => by rw [e] at h; simp at h)
  rw [val_words] at h1 h2
  have : 4294967296 ^ (words n).length ≤ 4294967296 ^ ((words m).length - 1) := Nat.pow_le_pow_right (by decide) (by omega)
  omega
theorem val_at {l : List Nat} {i : Nat} (h : i < l.length) : val l = val (l.take i) + 4294967296 ^ i * (l[i] + 4294967296 * val (l.drop (i + 1))) := by
  conv => lhs; rw [← List.take_append_drop i l]
  rw [val_append, List.length_take, Nat.min_eq_left (by omega), List.drop_eq_getElem_cons h, val]
/-- the highest word that differs tells -/
theorem val_lt_at {l r : List Nat} {i : Nat} (hl : IsW l) (h1 : i < l.length) (h2 : i < r.length) (hd : l.drop (i + 1) = r.drop (i + 1)) (h : l[i] < r[i]) : val l < val r := by
  rw [val_at h1, val_at h2, hd]
  have ht := val_lt (l := l.take i) (fun x hx => hl x (List.mem_of_mem_take hx))
  rw [List.length_take, Nat.min_eq_left (by omega)] at ht
  have : 4294967296 ^ i * (l[i] + 4294967296 * val (r.drop (i + 1))) + 4294967296 ^ i ≤ 4294967296 ^ i * (r[i] + 4294967296 * val (r.drop (i + 1))) := by
    rw [← Nat.mul_succ]
    exact Nat.mul_le_mul_left _ (by omega)
  omega
theorem val_snoc (l : List Nat) (d : Nat) : val (l ++ [d]) = val l + 4294967296 ^ l.length * d := by
  rw [val_append, val, val]; simp
theorem val_take {l : List Nat} {k : Nat} (hk : k < l.length) : val (l.take (k + 1)) = val (l.take k) + 4294967296 ^ k * l[k] := by
  rw [List.take_succ_eq_append_getElem hk, val_snoc, List.length_take, Nat.min_eq_left (by omega)]
theorem IsW.snoc {l : List Nat} {d : Nat} (h : IsW l) (hd : d < 4294967296) : IsW (l ++ [d]) := fun x hx => by
  rcases List.mem_append.1 hx with hx | hx
  · exact h x hx
  · rw [List.mem_singleton] at hx; omega
theorem canon_big {l : List Nat} (hw : IsW l) (h : l ≠ [] → 4294967296 ^ (l.length - 1) ≤ val l) : Canon l := by
  refine ⟨hw, fun hne h0 => ?_⟩
  have e := List.dropLast_concat_getLast hne
  have hv := h hne
  rw [← e, h0, val_snoc, List.length_append, List.length_singleton] at hv
  have := val_lt (l := l.dropLast) (fun x hx => hw x (List.dropLast_subset l hx))
  simp at hv
  rw [List.length_dropLast] at this
  omega
theorem add_step {l r out : List Nat} {k cy x y : Nat} (hk : k < l.length) (hx : x = l[k]) (hy : (∃ h : k < r.length, y = r[k]) ∨ (r.length ≤ k ∧ y = 0)) (hout : out.length = k)
    (hV : IsW out ∧ val out + 4294967296 ^ k * cy = val (l.take k) + val (r.take k)) :
    IsW (out ++ [(cy + x + y) % 4294967296]) ∧ val (out ++ [(cy + x + y) % 4294967296]) + 4294967296 ^ (k + 1) * ((cy + x + y) / 4294967296) = val (l.take (k + 1)) + val (r.take (k + 1)) := by
  refine ⟨hV.1.snoc (Nat.mod_lt _ (by decide)), ?_⟩
  have hr : val (r.take (k + 1)) = val (r.take k) + 4294967296 ^ k * y := by
    rcases hy with ⟨h, rfl⟩ | ⟨h, rfl⟩
    · exact val_take h
    · rw [List.take_of_length_le h, List.take_of_length_le (by omega)]; simp
  rw [val_snoc, val_take hk, hr, hout, ← hx, Nat.pow_succ]
  have e : 4294967296 ^ k * ((cy + x + y) % 4294967296) + 4294967296 ^ k * 4294967296 * ((cy + x + y) / 4294967296) = 4294967296 ^ k * cy + 4294967296 ^ k * x + 4294967296 ^ k * y := by
    rw [Nat.mul_assoc, ← Nat.mul_add, ← Nat.mul_add, ← Nat.mul_add, Nat.mod_add_div]
  have := hV.2
  omega
def cmpI (n m : Nat) : Int := if n < m then -1 else if n = m then 0 else 1
end Go.Proofs.YtjbdadhggejoiaaGreatDoor
