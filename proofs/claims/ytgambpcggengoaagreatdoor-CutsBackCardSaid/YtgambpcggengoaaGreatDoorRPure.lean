/- How the reference reads a text, in plain words: where its loop stands, and what each step keeps. -/
import Derived.Test.YtgambpcggengoaaGreatDoorTxt
import Derived.Test.YtgambpcggengoaaGreatDoorAll
namespace Go.Proofs.YtgambpcggengoaaGreatDoor
open Go.RowKit
set_option maxRecDepth 100000

theorem fns_len : fns.length = 10 := rfl
theorem fns_rise : ∀ i, i < 11 → ∀ a ∈ fns.take i, ∀ b ∈ fns.drop i, a < b := by decide
theorem fns_drop : ∀ i, (h : i < fns.length) → fns.drop i = fns[i] :: fns.drop (i + 1) := fun i h => List.drop_eq_getElem_cons h
theorem fns_least : ∀ i, i < 10 → ∀ a ∈ fns.drop (i + 1), fns.getD i 0 < a := by decide
theorem fns_ok : ∀ f ∈ fns, ∀ k ∈ ([1, 2, 3] : List Int), (f, k) ∈ tbl := by decide
theorem tbl_fn : ∀ c ∈ tbl, c.1 ∈ fns ∧ c.2 ∈ ([1, 2, 3] : List Int) := by decide

theorem srt_snoc : ∀ (l : List (Int × Int)) (x : Int × Int), Cut.srtB l = true → (∀ c ∈ l, c.1 < x.1) → Cut.srtB (l ++ [x]) = true
  | [], _, _, _ => rfl
  | c :: l, x, hs, ha => by
    obtain ⟨h1, h2⟩ := Cut.srtB_cons hs
    rw [List.cons_append]
    refine Cut.srtB_mk (srt_snoc l x h1 fun d hd => ha d (by simp [hd])) fun d hd => ?_
    rcases List.mem_append.1 hd with hd | hd
    · exact h2 d hd
    · rw [List.mem_singleton] at hd
      subst hd
      exact ha c (by simp)
theorem srt_right : ∀ (a b : List (Int × Int)), Cut.srtB (a ++ b) = true → Cut.srtB b = true
  | [], _, h => h
  | c :: a, b, h => srt_right a b (Cut.srtB_cons (c := c) (l := a ++ b) h).1

def preL (l : List (Int × Int)) : List UInt8 := (l.map fun c => itL c ++ [44, 32]).flatten
theorem preL_snoc (l : List (Int × Int)) (x : Int × Int) : preL (l ++ [x]) = preL l ++ (itL x ++ [44, 32]) := by simp [preL]
theorem shL_pre : ∀ (l : List (Int × Int)) (x : Int × Int), shL (l ++ [x]) = preL l ++ itL x
  | [], x => by simp [shL, preL, tailL]
  | [c], x => by simp [shL, preL, tailL]
  | c :: d :: l, x => by
    have ih := shL_pre (d :: l) x
    rw [List.cons_append, shL, List.cons_append, tailL_cons, ← List.cons_append, ih]
    simp [preL]

/-- a text does not go on with the item x as an item must -/
def NoM (t : List UInt8) (x : Int × Int) : Prop := ∀ r, t = itL x ++ r → r ≠ [] ∧ ¬ (3 ≤ r.length ∧ r.take 2 = [44, 32])

/-- Where the loop stands: out is read, t is behind it, i functions are behind. -/
structure RInv (S : List UInt8) (out : List (Int × Int)) (t : List UInt8) (i : Nat) : Prop where
  tb : ∀ c ∈ out, c ∈ tbl
  fn : ∀ c ∈ out, c.1 ∈ fns.take i
  srt : Cut.srtB out = true
  pre : S = preL out ++ t
  ne : t ≠ []
  all : ∀ m, Cut.validB m = true → shL m = S → ∃ m', m' ≠ [] ∧ m = out ++ m' ∧ shL m' = t ∧ ∀ c ∈ m', c.1 ∈ fns.drop i

section
variable {S t : List UInt8} {out : List (Int × Int)} {i : Nat}
theorem RInv.start (h : S ≠ []) : RInv S [] S 0 :=
  ⟨fun _ h => by (cases h), fun _ h => by (cases h), rfl, rfl, h, fun m hv hm => ⟨m, fun e => h (by rw [← hm, e]; rfl), rfl, hm, fun c hc => (tbl_fn c (valid_tbl hv c hc)).1⟩⟩
theorem valid_of {l : List (Int × Int)} (h1 : ∀ c ∈ l, c ∈ tbl) (h2 : Cut.srtB l = true) : Cut.validB l = true := by
  simp only [Cut.validB, Bool.and_eq_true]
  exact ⟨List.all_eq_true.2 fun c hc => tbl_ok c (h1 c hc), h2⟩
theorem RInv.snoc (h : RInv S out t i) (hi : i < fns.length) {k : Int} (hk : k ∈ ([1, 2, 3] : List Int)) :
    (∀ c ∈ out ++ [(fns[i], k)], c ∈ tbl) ∧ (∀ c ∈ out ++ [(fns[i], k)], c.1 ∈ fns.take (i + 1)) ∧ Cut.srtB (out ++ [(fns[i], k)]) = true := by
  have hf : fns[i] ∈ fns := List.getElem_mem hi
  refine ⟨fun c hc => ?_, fun c hc => ?_, srt_snoc out _ h.srt fun c hc => fns_rise i (by rw [fns_len] at hi; omega) c.1 (h.fn c hc) _ (by rw [fns_drop i hi]; exact List.mem_cons_self)⟩
  · rcases List.mem_append.1 hc with hc | hc
    · exact h.tb c hc
    · rw [List.mem_singleton] at hc
      subst hc
      exact fns_ok _ hf k hk
  · rw [List.take_succ_eq_append_getElem hi, List.mem_append]
    rcases List.mem_append.1 hc with hc | hc
    · exact .inl (h.fn c hc)
    · rw [List.mem_singleton] at hc
      subst hc
      exact .inr (by simp)
/-- the last item: the list is told -/
theorem RInv.last (h : RInv S out t i) (hi : i < fns.length) {k : Int} (hk : k ∈ ([1, 2, 3] : List Int)) (ht : t = itL (fns[i], k) ++ []) :
    Cut.validB (out ++ [(fns[i], k)]) = true ∧ shL (out ++ [(fns[i], k)]) = S := by
  obtain ⟨h1, _, h3⟩ := h.snoc hi hk
  exact ⟨valid_of h1 h3, by rw [shL_pre, h.pre, ht]; simp⟩
/-- one item more -/
theorem RInv.next (h : RInv S out t i) (hi : i < fns.length) {k : Int} (hk : k ∈ ([1, 2, 3] : List Int)) {r : List UInt8} (hr : r ≠ []) (ht : t = itL (fns[i], k) ++ ([44, 32] ++ r)) :
    RInv S (out ++ [(fns[i], k)]) r (i + 1) := by
  obtain ⟨h1, h2, h3⟩ := h.snoc hi hk
  refine ⟨h1, h2, h3, by rw [preL_snoc, h.pre, ht]; simp, hr, fun m hv hm => ?_⟩
  obtain ⟨m', hne, rfl, hs, hd⟩ := h.all m hv hm
  obtain ⟨c, m2, rfl⟩ := List.exists_cons_of_ne_nil hne
  have hc : c ∈ tbl := valid_tbl hv c (by simp)
  have hx : (fns[i], k) ∈ tbl := h1 _ (by simp)
  obtain ⟨rfl, hrest⟩ := item_same hc hx (hs.trans ht)
  match m2, hrest with
  | [], hrest => simp [tailL] at hrest
  | d :: m3, hrest =>
    rw [tailL_cons] at hrest
    refine ⟨d :: m3, by simp, by simp, List.append_cancel_left hrest, fun e he => ?_⟩
    have hsm : Cut.srtB ((fns[i], k) :: d :: m3) = true := by
      have := hv
      simp only [Cut.validB, Bool.and_eq_true] at this
      exact srt_right out _ this.2
    have hab := (Cut.srtB_cons hsm).2 e he
    have := hd e (List.mem_cons_of_mem _ he)
    rw [fns_drop i hi, List.mem_cons] at this
    rcases this with h | h
    · simp only at hab
      omega
    · exact h
/-- none of the function's items goes on here -/
theorem RInv.skip (h : RInv S out t i) (hi : i < fns.length) (hn : ∀ k ∈ ([1, 2, 3] : List Int), NoM t (fns[i], k)) : RInv S out t (i + 1) := by
  refine ⟨h.tb, fun c hc => ?_, h.srt, h.pre, h.ne, fun m hv hm => ?_⟩
  · rw [List.take_succ_eq_append_getElem hi, List.mem_append]
    exact .inl (h.fn c hc)
  · obtain ⟨m', hne, rfl, hs, hd⟩ := h.all m hv hm
    refine ⟨m', hne, rfl, hs, ?_⟩
    obtain ⟨c, m2, rfl⟩ := List.exists_cons_of_ne_nil hne
    have hsm : Cut.srtB (c :: m2) = true := by
      have := hv
      simp only [Cut.validB, Bool.and_eq_true] at this
      exact srt_right out _ this.2
    have hc : c ∈ tbl := valid_tbl hv c (by simp)
    have hcf : c.1 ≠ fns[i] := fun e => by
      have hk := (tbl_fn c hc).2
      have := hn c.2 hk (tailL m2) (by rw [← e]; exact hs.symm)
      match m2, this with
      | [], this => exact this.1 rfl
      | d :: m3, this =>
        refine this.2 ⟨?_, ?_⟩
        · have hl := tbl_long d (valid_tbl hv d (by simp))
          rw [tailL_cons]
          simp only [shL, List.length_append, List.length_cons, List.length_nil]
          omega
        · rw [tailL_cons]
          rfl
    have hc1 := hd c (by simp)
    rw [fns_drop i hi, List.mem_cons] at hc1
    have hc2 : c.1 ∈ fns.drop (i + 1) := by
      rcases hc1 with h | h
      · exact absurd h hcf
      · exact h
    have hlt : fns[i] < c.1 := by
      have := fns_least i (by rw [fns_len] at hi; exact hi) c.1 hc2
      have e : fns.getD i 0 = fns[i] := by simp [List.getD, hi]
      rwa [e] at this
    intro e he
    rcases List.mem_cons.1 he with rfl | he2
    · exact hc2
    · have h4 := (Cut.srtB_cons hsm).2 e he2
      have h5 := hd e he
      rw [fns_drop i hi, List.mem_cons] at h5
      rcases h5 with h | h
      · omega
      · exact h
/-- all functions are behind: no list has this text -/
theorem RInv.none_ (h : RInv S out t 10) (m : List (Int × Int)) (hv : Cut.validB m = true) : shL m ≠ S := fun e => by
  obtain ⟨m', hne, _, _, hd⟩ := h.all m hv e
  obtain ⟨c, m2, rfl⟩ := List.exists_cons_of_ne_nil hne
  have := hd c (by simp)
  simp [fns] at this
end

theorem shB_size (l : List (Int × Int)) : (shB l).size ≤ 13 * l.length := join_small l
theorem shB_short {l : List (Int × Int)} (h : Cut.validB l = true) : (shB l).size ≤ 1048576 := by
  have := shB_size l
  have := valid_len h
  omega

/-- What reading a text must answer is one thing. -/
theorem RdOk.one {s : ByteArray} {m n : List (Int × Int)} {k j : Int} (h : RdOk s m k) (g : RdOk s n j) : m = n ∧ k = j := by
  have vl : ∀ l : List (Int × Int), Cut.validB l = true → shB l = s → ∀ c ∈ l, c ∈ tbl := fun l h _ => valid_tbl h
  rcases h with ⟨rfl, h1, h2⟩ | ⟨rfl, rfl, h1⟩ | ⟨rfl, rfl, h1, h2⟩ <;> rcases g with ⟨rfl, g1, g2⟩ | ⟨rfl, rfl, g1⟩ | ⟨rfl, rfl, g1, g2⟩
  · exact ⟨shB_inj h1 g1 (h2.trans g2.symm), rfl⟩
  · exact absurd (shB_short h1) (by rw [h2]; omega)
  · exact absurd h2 (g2 m h1)
  · exact absurd (shB_short g1) (by rw [g2]; omega)
  · exact ⟨rfl, rfl⟩
  · omega
  · exact absurd g2 (h2 n g1)
  · omega
  · exact ⟨rfl, rfl⟩
end Go.Proofs.YtgambpcggengoaaGreatDoor
