/- Texts of lists of cuts, in plain words: a text tells its list; cut at the commas it gives the list's items. -/
import Derived.Test.YtgambpcggengoaaGreatDoorIt
import Derived.Test.YtgambpcggengoaaGreatDoorCutPure
import Derived.Lib.SplitLaws
import Derived.Lib.SlicesS
namespace Go.Proofs.YtgambpcggengoaaGreatDoor
open Go.RowKit
set_option maxRecDepth 100000

def itL (c : Int × Int) : List UInt8 := (itB c).data.toList
def tailL (l : List (Int × Int)) : List UInt8 := (l.map fun c => [44, 32] ++ itL c).flatten
def shL : List (Int × Int) → List UInt8
  | [] => []
  | c :: l => itL c ++ tailL l
theorem tailL_cons (c : Int × Int) (l : List (Int × Int)) : tailL (c :: l) = [44, 32] ++ shL (c :: l) := by simp [tailL, shL]
theorem shB_data (l : List (Int × Int)) : (shB l).data.toList = shL l := by
  show Lib.join ((l.map itB).map (·.data.toList)) [44, 32] = shL l
  cases l with
  | nil => rfl
  | cons c l =>
    rw [List.map_cons, List.map_cons, Lib.join_cons, shL]
    congr 1
    simp [Lib.joinTail, tailL, itL, List.map_map, Function.comp_def]
theorem bytes_ext {a b : ByteArray} (h : a.data.toList = b.data.toList) : a = b := ByteArray.ext (Array.toList_inj.mp h)
theorem shB_eq {s : ByteArray} {l : List (Int × Int)} (h : s.data.toList = shL l) : s = shB l := bytes_ext (h.trans (shB_data l).symm)

/-- the functions with a cut, rising; the thirty cuts -/
def fns : List Int := [6, 9, 11, 18, 19, 20, 21, 22, 23, 28]
def tbl : List (Int × Int) := fns.flatMap fun f => [(f, 1), (f, 2), (f, 3)]
theorem tbl_of {c : Int × Int} (h : Cut.okB c = true) : c ∈ tbl := by
  obtain ⟨f, s⟩ := c
  simp only [Cut.okB, Bool.and_eq_true, decide_eq_true_eq] at h
  obtain ⟨⟨h1, h2⟩, h3⟩ := h
  have hs : s = 1 ∨ s = 2 ∨ s = 3 := by omega
  simp only [Cut.knownB, Bool.or_eq_true, beq_iff_eq] at h1
  rcases h1 with ((((((((rfl | rfl) | rfl) | rfl) | rfl) | rfl) | rfl) | rfl) | rfl) | rfl <;> rcases hs with rfl | rfl | rfl <;> decide
theorem tbl_ok : ∀ c ∈ tbl, Cut.okB c = true := by decide
theorem tbl_apart : ∀ x ∈ tbl, ∀ y ∈ tbl, (itL x).isPrefixOf (itL y) = true → x = y := by decide +kernel
theorem tbl_comma : ∀ x ∈ tbl, ∀ b ∈ itL x, b ≠ 44 := by decide +kernel
theorem tbl_long : ∀ x ∈ tbl, 6 ≤ (itL x).length := by decide +kernel

/-- of two beginnings of one text one begins the other -/
theorem pre_pre {a b s t : List UInt8} (h : a ++ s = b ++ t) : a.isPrefixOf b = true ∨ b.isPrefixOf a = true := by
  rw [List.isPrefixOf_iff_prefix, List.isPrefixOf_iff_prefix]
  exact List.prefix_or_prefix_of_prefix (List.prefix_append a s) (h ▸ List.prefix_append b t)
theorem item_same {x y : Int × Int} (hx : x ∈ tbl) (hy : y ∈ tbl) {s t : List UInt8} (h : itL x ++ s = itL y ++ t) : x = y ∧ s = t := by
  have e : x = y := by
    rcases pre_pre h with h | h
    · exact tbl_apart x hx y hy h
    · exact (tbl_apart y hy x hx h).symm
  subst e
  exact ⟨rfl, List.append_cancel_left h⟩
theorem shL_inj : ∀ (l m : List (Int × Int)), (∀ c ∈ l, c ∈ tbl) → (∀ c ∈ m, c ∈ tbl) → shL l = shL m → l = m
  | [], [], _, _, _ => rfl
  | [], d :: m, _, hm, h => by
    have := tbl_long d (hm d (by simp))
    have := congrArg List.length h
    simp only [shL, List.length_append, List.length_nil] at this
    omega
  | c :: l, [], hl, _, h => by
    have := tbl_long c (hl c (by simp))
    have := congrArg List.length h
    simp only [shL, List.length_append, List.length_nil] at this
    omega
  | c :: l, d :: m, hl, hm, h => by
    obtain ⟨rfl, ht⟩ := item_same (hl c (by simp)) (hm d (by simp)) h
    congr 1
    match l, m, hl, hm, ht with
    | [], [], _, _, _ => rfl
    | [], d :: m, _, _, ht => simp [tailL] at ht
    | c :: l, [], _, _, ht => simp [tailL] at ht
    | c :: l, d :: m, hl, hm, ht =>
      rw [tailL_cons, tailL_cons] at ht
      exact shL_inj (c :: l) (d :: m) (fun x hx => hl x (by simp only [List.mem_cons] at *; exact .inr hx)) (fun x hx => hm x (by simp only [List.mem_cons] at *; exact .inr hx)) (List.append_cancel_left ht)
theorem valid_tbl {l : List (Int × Int)} (h : Cut.validB l = true) : ∀ c ∈ l, c ∈ tbl := fun c hc => by
  simp only [Cut.validB, Bool.and_eq_true] at h
  exact tbl_of (List.all_eq_true.1 h.1 c hc)
theorem shB_inj {l m : List (Int × Int)} (hl : Cut.validB l = true) (hm : Cut.validB m = true) (h : shB l = shB m) : l = m :=
  shL_inj l m (valid_tbl hl) (valid_tbl hm) (by rw [← shB_data, ← shB_data, h])

/-- the first comma behind words without one -/
theorem index_comma : ∀ (x r : List UInt8), (∀ b ∈ x, b ≠ 44) → Lib.index (x ++ ([44, 32] ++ r)) [44, 32] = x.length
  | [], r, _ => by simp [Lib.index, List.isPrefixOf]
  | b :: x, r, h => by
    have hb : b ≠ 44 := h b (by simp)
    have ih := index_comma x r (fun c hc => h c (by simp [hc]))
    rw [List.cons_append, Lib.index, ih]
    have hp : ([44, 32] : List UInt8).isPrefixOf (b :: (x ++ ([44, 32] ++ r))) = false := by
      simp only [List.isPrefixOf, Bool.and_eq_false_iff, beq_eq_false_iff_ne]
      exact .inl (Ne.symm hb)
    rw [hp, if_neg (by decide), if_neg (by rw [beq_iff_eq]; omega)]
    simp
theorem index_no_comma : ∀ (x : List UInt8), (∀ b ∈ x, b ≠ 44) → Lib.index x [44, 32] = -1
  | [], _ => rfl
  | b :: x, h => by
    have hb : b ≠ 44 := h b (by simp)
    have ih := index_no_comma x (fun c hc => h c (by simp [hc]))
    rw [Lib.index, ih]
    have hp : ([44, 32] : List UInt8).isPrefixOf (b :: x) = false := by
      simp only [List.isPrefixOf, Bool.and_eq_false_iff, beq_eq_false_iff_ne]
      exact .inl (Ne.symm hb)
    rw [hp, if_neg (by decide)]
    rfl
theorem split_shL : ∀ (c : Int × Int) (l : List (Int × Int)), (∀ d ∈ c :: l, d ∈ tbl) → Lib.splitK [44, 32] 0 (Lib.count (shL (c :: l)) [44, 32]) (shL (c :: l)) = (c :: l).map itL
  | c, [], h => by
    have e : shL [c] = itL c := by simp [shL, tailL]
    have hi := index_no_comma (itL c) (tbl_comma c (h c (by simp)))
    rw [e, Lib.count_miss hi]
    rfl
  | c, d :: l, h => by
    have e : shL (c :: d :: l) = itL c ++ ([44, 32] ++ shL (d :: l)) := by rw [shL, tailL_cons]
    have hi := index_comma (itL c) (shL (d :: l)) (tbl_comma c (h c (by simp)))
    have ed : (itL c ++ ([44, 32] ++ shL (d :: l))).drop ((itL c).length + ([44, 32] : List UInt8).length) = shL (d :: l) := by
      rw [← List.append_assoc, ← List.length_append, List.drop_left]
    rw [e, Lib.count_hit (by simp) hi, ed, Nat.add_comm 1, Lib.splitK, hi]
    rw [if_neg (by rw [beq_iff_eq]; omega), Int.toNat_natCast, ed, split_shL d l (fun x hx => h x (by simp only [List.mem_cons] at *; exact .inr hx))]
    simp
/-- a text of a list, cut at the commas, gives the items -/
theorem pieces_shB {l : List (Int × Int)} (h0 : l ≠ []) (hl : ∀ d ∈ l, d ∈ tbl) : Lib.splitB ⟨#[44, 32]⟩ 0 (Lib.countB (shB l) ⟨#[44, 32]⟩) (shB l) = l.map itB := by
  obtain ⟨c, m, rfl⟩ := List.exists_cons_of_ne_nil h0
  have h := Lib.splitB_data ⟨#[44, 32]⟩ 0 (Lib.countB (shB (c :: m)) ⟨#[44, 32]⟩) (shB (c :: m))
  have hc : Lib.countB (shB (c :: m)) ⟨#[44, 32]⟩ = Lib.count (shL (c :: m)) [44, 32] := by
    show Lib.count _ _ = _
    rw [shB_data]
  rw [hc, shB_data] at h
  have h2 := h.trans (split_shL c m hl)
  rw [hc]
  have hm : (c :: m).map itL = ((c :: m).map itB).map (·.data.toList) := by simp [itL]
  rw [hm] at h2
  exact (List.map_inj_right (fun a b => bytes_ext)).1 h2

/-- what a piece is read as -/
def fnUp (n : ByteArray) : Nat → Int
  | 0 => 0
  | k + 1 => if Cut.knownB (k : Int) = true ∧ knN (k : Int) = n then (k : Int) else fnUp n k
def fnOf (n : ByteArray) : Int := fnUp n 29
def words : List ByteArray := [⟨#[]⟩, ⟨#[97, 98, 111, 118, 101]⟩, ⟨#[98, 101, 108, 111, 119]⟩, ⟨#[98, 111, 116, 104]⟩]
def parse (p : ByteArray) : Int × Int := (fnOf ⟨(Lib.cut p.data.toList [32]).1.toArray⟩, Lib.idxOfS words ⟨(Lib.cut p.data.toList [32]).2.1.toArray⟩)
theorem tbl_parse : ∀ x ∈ tbl, parse (itB x) = x := by decide +kernel
theorem parse_items {l : List (Int × Int)} (hl : ∀ d ∈ l, d ∈ tbl) : (l.map itB).map parse = l := by
  rw [List.map_map]
  conv => rhs; rw [← List.map_id l]
  exact List.map_congr_left fun c hc => tbl_parse c (hl c hc)

theorem shL_snoc (l : List (Int × Int)) (c : Int × Int) (h : l ≠ []) : shL (l ++ [c]) = shL l ++ ([44, 32] ++ itL c) := by
  obtain ⟨d, m, rfl⟩ := List.exists_cons_of_ne_nil h
  simp [shL, tailL]
theorem shB_first (c : Int × Int) : shB [c] = itB c := bytes_ext (by rw [shB_data]; simp [shL, tailL, itL])
theorem shB_nil : shB [] = ⟨#[]⟩ := rfl
theorem shB_snoc (l : List (Int × Int)) (c : Int × Int) (h : l ≠ []) : shB (l ++ [c]) = shB l ++ ⟨#[44, 32]⟩ ++ knN c.1 ++ ⟨#[32]⟩ ++ sdB c.2 := bytes_ext (by
  rw [shB_data, shL_snoc l c h]
  have := shB_data l
  simp [itL, itB, this, List.append_assoc])
theorem shB_take0 {l : List (Int × Int)} (hk : 0 < l.length) {f s : Int} (h : (f, s) = l[0]) {t : ByteArray} (ht : t = shB (l.take 0)) : t ++ knN f ++ ⟨#[32]⟩ ++ sdB s = shB (l.take (0 + 1)) := by
  have e : l.take (0 + 1) = [(f, s)] := by
    rw [List.take_succ_eq_append_getElem hk, ← h]
    simp
  rw [e, shB_first, ht, List.take_zero, shB_nil]
  exact bytes_ext (by simp [itB])
theorem shB_take {l : List (Int × Int)} {k : Nat} (h0 : 0 < k) (hk : k < l.length) {f s : Int} (h : (f, s) = l[k]) {t : ByteArray} (ht : t = shB (l.take k)) : t ++ ⟨#[44, 32]⟩ ++ knN f ++ ⟨#[32]⟩ ++ sdB s = shB (l.take (k + 1)) := by
  have e : l.take (k + 1) = l.take k ++ [(f, s)] := by rw [List.take_succ_eq_append_getElem hk, ← h]
  have hne : l.take k ≠ [] := fun e => by
    have h2 := congrArg List.length e
    rw [List.length_take, List.length_nil] at h2
    omega
  rw [e, shB_snoc _ _ hne, ht]

/-- What reading a text must answer. -/
def RdOk (s : ByteArray) (m : List (Int × Int)) (k : Int) : Prop :=
  (k = 0 ∧ Cut.validB m = true ∧ shB m = s) ∨ (k = 2 ∧ m = [] ∧ 1048576 < s.size) ∨ (k = 3 ∧ m = [] ∧ s.size ≤ 1048576 ∧ ∀ m', Cut.validB m' = true → shB m' ≠ s)
end Go.Proofs.YtgambpcggengoaaGreatDoor
