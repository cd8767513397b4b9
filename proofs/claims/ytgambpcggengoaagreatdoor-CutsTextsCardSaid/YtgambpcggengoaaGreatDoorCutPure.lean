/- Plain facts on lists of cuts: two put together, the order, twice. -/
import Derived.Below
namespace Go.Proofs.YtgambpcggengoaaGreatDoor.Cut

/-- Two lists of cuts put together. -/
def mrg : List (Int × Int) → List (Int × Int) → List (Int × Int)
  | [], b => b
  | a, [] => a
  | (f, s) :: a, (g, t) :: b =>
    if f < g then (f, s) :: mrg a ((g, t) :: b)
    else if g < f then (g, t) :: mrg ((f, s) :: a) b
    else (f, if s = t then s else 3) :: mrg a b
termination_by a b => a.length + b.length

/-- The functions that have a cut. -/
def knownB (f : Int) : Bool :=
  f == 6 || f == 9 || f == 11 || f == 18 || f == 19 || f == 20 || f == 21 || f == 22 || f == 23 || f == 28

def okB (c : Int × Int) : Bool := knownB c.1 && decide (1 ≤ c.2) && decide (c.2 ≤ 3)

def srtB : List (Int × Int) → Bool
  | [] => true
  | [_] => true
  | c :: d :: l => decide (c.1 < d.1) && srtB (d :: l)

def validB (l : List (Int × Int)) : Bool := l.all okB && srtB l

def look (l : List (Int × Int)) (f : Int) : Option Int := (l.find? (fun c => c.1 == f)).map (·.2)

theorem look_nil (f : Int) : look [] f = none := rfl
theorem look_cons (g s : Int) (l : List (Int × Int)) (f : Int) : look ((g, s) :: l) f = if g = f then some s else look l f := by
  unfold look
  by_cases h : g = f <;> simp [List.find?_cons, h]

/-- every function of l is above f -/
def Above (f : Int) (l : List (Int × Int)) : Prop := ∀ c ∈ l, f < c.1
theorem Above.look {f : Int} {l : List (Int × Int)} (h : Above f l) {g : Int} (hg : g ≤ f) : look l g = none := by
  unfold Cut.look
  rw [List.find?_eq_none.2]
  · rfl
  · intro c hc; have := h c hc; simp; omega
theorem srtB_cons {c : Int × Int} {l : List (Int × Int)} (h : srtB (c :: l) = true) : srtB l = true ∧ Above c.1 l := by
  induction l generalizing c with
  | nil => exact ⟨rfl, fun _ h => by cases h⟩
  | cons d l ih =>
    simp only [srtB, Bool.and_eq_true, decide_eq_true_eq] at h
    refine ⟨h.2, ?_⟩
    intro x hx
    rcases List.mem_cons.1 hx with rfl | hx
    · exact h.1
    · have := (ih h.2).2 x hx; omega
theorem srtB_mk {c : Int × Int} {l : List (Int × Int)} (h : srtB l = true) (ha : Above c.1 l) : srtB (c :: l) = true := by
  cases l with
  | nil => rfl
  | cons d l => simp only [srtB, Bool.and_eq_true, decide_eq_true_eq]; exact ⟨ha d (by simp), h⟩

theorem ext_ : ∀ (a b : List (Int × Int)), srtB a = true → srtB b = true → (∀ f, look a f = look b f) → a = b
  | [], [], _, _, _ => rfl
  | [], (g, t) :: b, _, _, h => by have := h g; rw [look_cons, look_nil] at this; simp at this
  | (f, s) :: a, [], _, _, h => by have := h f; rw [look_cons, look_nil] at this; simp at this
  | (f, s) :: a, (g, t) :: b, ha, hb, h => by
    obtain ⟨ha1, ha2⟩ := srtB_cons ha
    obtain ⟨hb1, hb2⟩ := srtB_cons hb
    have hfg : f = g := by
      rcases Int.lt_trichotomy f g with hl | he | hl
      · have := h f
        rw [look_cons, look_cons, if_pos rfl, if_neg (by omega), hb2.look (show f ≤ g by omega)] at this
        cases this
      · exact he
      · have := h g
        rw [look_cons, look_cons, if_neg (by omega), if_pos rfl, ha2.look (show g ≤ f by omega)] at this
        cases this
    subst hfg
    have hst : s = t := by have := h f; rw [look_cons, look_cons, if_pos rfl, if_pos rfl] at this; exact Option.some.inj this
    subst hst
    rw [ext_ a b ha1 hb1 fun x => ?_]
    by_cases hx : f = x
    · subst hx; rw [ha2.look (by omega), hb2.look (by omega)]
    · have := h x; rwa [look_cons, look_cons, if_neg hx, if_neg hx] at this

/-- two sides put together -/
def join : Option Int → Option Int → Option Int
  | none, y => y
  | x, none => x
  | some s, some t => some (if s = t then s else 3)
theorem join_none (x : Option Int) : join x none = x := by cases x <;> rfl
theorem join_comm (x y : Option Int) : join x y = join y x := by
  cases x <;> cases y <;> simp [join]
  split <;> split <;> omega

theorem mrg_above {f : Int} : ∀ (a b : List (Int × Int)), Above f a → Above f b → Above f (mrg a b)
  | [], b, _, hb => by rw [mrg]; exact hb
  | (g, s) :: a, [], ha, _ => by rw [mrg]; exact ha; simp
  | (g, s) :: a, (h, t) :: b, ha, hb => by
    have h1 : f < g := ha (g, s) (by simp)
    have h2 : f < h := hb (h, t) (by simp)
    have ha' : Above f a := fun c hc => ha c (by simp [hc])
    have hb' : Above f b := fun c hc => hb c (by simp [hc])
    rw [mrg]
    split
    · intro c hc; rcases List.mem_cons.1 hc with rfl | hc
      · exact h1
      · exact mrg_above a ((h, t) :: b) ha' hb c hc
    · split
      · intro c hc; rcases List.mem_cons.1 hc with rfl | hc
        · exact h2
        · exact mrg_above ((g, s) :: a) b ha hb' c hc
      · intro c hc; rcases List.mem_cons.1 hc with rfl | hc
        · exact h1
        · exact mrg_above a b ha' hb' c hc
termination_by a b => a.length + b.length

theorem mrg_srt : ∀ (a b : List (Int × Int)), srtB a = true → srtB b = true → srtB (mrg a b) = true
  | [], b, _, hb => by rw [mrg]; exact hb
  | (g, s) :: a, [], ha, _ => by rw [mrg]; exact ha; simp
  | (g, s) :: a, (h, t) :: b, ha, hb => by
    obtain ⟨ha1, ha2⟩ := srtB_cons ha
    obtain ⟨hb1, hb2⟩ := srtB_cons hb
    rw [mrg]
    split
    · exact srtB_mk (mrg_srt a _ ha1 hb) (mrg_above _ _ ha2 fun c hc => by
        rcases List.mem_cons.1 hc with rfl | hc
        · assumption
        · have := hb2 c hc; simp only at this ⊢; omega)
    · split
      · exact srtB_mk (mrg_srt _ b ha hb1) (mrg_above _ _ (fun c hc => by
          rcases List.mem_cons.1 hc with rfl | hc
          · assumption
          · have := ha2 c hc; simp only at this ⊢; omega) hb2)
      · exact srtB_mk (mrg_srt a b ha1 hb1) (mrg_above _ _ ha2 fun c hc => by
          have := hb2 c hc; simp only at this ⊢; omega)
termination_by a b => a.length + b.length

theorem look_mrg (x : Int) : ∀ (a b : List (Int × Int)), srtB a = true → srtB b = true → look (mrg a b) x = join (look a x) (look b x)
  | [], b, _, _ => by rw [mrg]; rfl
  | (g, s) :: a, [], _, _ => by rw [mrg, look_nil, join_none]; simp
  | (g, s) :: a, (h, t) :: b, ha, hb => by
    obtain ⟨ha1, ha2⟩ := srtB_cons ha
    obtain ⟨hb1, hb2⟩ := srtB_cons hb
    rw [mrg]
    split
    · rename_i hl
      rw [look_cons, look_mrg x a _ ha1 hb]
      by_cases hx : g = x
      · subst hx
        rw [if_pos rfl, look_cons, look_cons, if_pos rfl, if_neg (by omega), hb2.look (show g ≤ h by omega), join_none]
      · rw [if_neg hx, look_cons g, if_neg hx]
    · split
      · rename_i hl
        rw [look_cons, look_mrg x _ b ha hb1]
        by_cases hx : h = x
        · subst hx
          rw [if_pos rfl, look_cons, look_cons, if_neg (by omega), if_pos rfl, ha2.look (show h ≤ g by omega)]
          rfl
        · rw [if_neg hx, look_cons h, if_neg hx]
      · have hgh : g = h := by omega
        subst hgh
        rw [look_cons, look_mrg x a b ha1 hb1, look_cons, look_cons]
        by_cases hx : g = x
        · rw [if_pos hx, if_pos hx, if_pos hx]; rfl
        · rw [if_neg hx, if_neg hx, if_neg hx]
termination_by a b => a.length + b.length

theorem mrg_ok : ∀ (a b : List (Int × Int)), a.all okB = true → b.all okB = true → (mrg a b).all okB = true
  | [], b, _, hb => by rw [mrg]; exact hb
  | (g, s) :: a, [], ha, _ => by rw [mrg]; exact ha; simp
  | (g, s) :: a, (h, t) :: b, ha, hb => by
    have ha' := ha; have hb' := hb
    simp only [List.all_cons, Bool.and_eq_true] at ha' hb'
    rw [mrg]
    split
    · simp only [List.all_cons, Bool.and_eq_true]; exact ⟨ha'.1, mrg_ok a _ ha'.2 hb⟩
    · split
      · simp only [List.all_cons, Bool.and_eq_true]; exact ⟨hb'.1, mrg_ok _ b ha hb'.2⟩
      · simp only [List.all_cons, Bool.and_eq_true]
        refine ⟨?_, mrg_ok a b ha'.2 hb'.2⟩
        split
        · exact ha'.1
        · have := ha'.1
          simp only [okB, Bool.and_eq_true, decide_eq_true_eq] at this ⊢
          exact ⟨⟨this.1.1, by omega⟩, by omega⟩
termination_by a b => a.length + b.length

theorem mrg_valid {a b : List (Int × Int)} (ha : validB a = true) (hb : validB b = true) : validB (mrg a b) = true := by
  simp only [validB, Bool.and_eq_true] at *
  exact ⟨mrg_ok a b ha.1 hb.1, mrg_srt a b ha.2 hb.2⟩

theorem mrg_comm {a b : List (Int × Int)} (ha : validB a = true) (hb : validB b = true) : mrg a b = mrg b a := by
  simp only [validB, Bool.and_eq_true] at *
  exact ext_ _ _ (mrg_srt a b ha.2 hb.2) (mrg_srt b a hb.2 ha.2) fun f => by rw [look_mrg f a b ha.2 hb.2, look_mrg f b a hb.2 ha.2, join_comm]

theorem mrg_self {a : List (Int × Int)} (ha : validB a = true) : mrg a a = a := by
  simp only [validB, Bool.and_eq_true] at *
  exact ext_ _ _ (mrg_srt a a ha.2 ha.2) ha.2 fun f => by
    rw [look_mrg f a a ha.2 ha.2]; cases look a f <;> simp [join]

theorem look_ok {a : List (Int × Int)} (ha : a.all okB = true) {f s : Int} (h : look a f = some s) : 1 ≤ s ∧ s ≤ 3 := by
  unfold look at h
  rw [Option.map_eq_some_iff] at h
  obtain ⟨c, hc, rfl⟩ := h
  have := List.all_eq_true.1 ha c (List.mem_of_find?_eq_some hc)
  simp only [okB, Bool.and_eq_true, decide_eq_true_eq] at this
  omega

theorem mrg_twice {a b : List (Int × Int)} (ha : validB a = true) (hb : validB b = true) : mrg (mrg a b) a = mrg a b := by
  have hm := mrg_valid ha hb
  simp only [validB, Bool.and_eq_true] at *
  exact ext_ _ _ (mrg_srt _ a hm.2 ha.2) hm.2 fun f => by
    rw [look_mrg f _ a hm.2 ha.2, look_mrg f a b ha.2 hb.2]
    cases h1 : look a f <;> cases h2 : look b f <;> simp [join]
    intros; omega
theorem mrg_len : ∀ (a b : List (Int × Int)), (mrg a b).length ≤ a.length + b.length
  | [], b => by rw [mrg]; simp
  | (g, s) :: a, [] => by rw [mrg]; simp; simp
  | (g, s) :: a, (h, t) :: b => by
    have h1 := mrg_len a ((h, t) :: b)
    have h2 := mrg_len ((g, s) :: a) b
    have h3 := mrg_len a b
    rw [mrg]
    split
    · simp only [List.length_cons] at *; omega
    · split <;> simp only [List.length_cons] at * <;> omega
termination_by a b => a.length + b.length
end Go.Proofs.YtgambpcggengoaaGreatDoor.Cut

namespace Go.Proofs.YtgambpcggengoaaGreatDoor.Cut
theorem srtB_iff (l : List (Int × Int)) : srtB l = true ↔ ∀ i (h : i + 1 < l.length), l[i].1 < l[i + 1].1 := by
  induction l with
  | nil => simp [srtB]
  | cons c l ih =>
    cases l with
    | nil => simp [srtB]
    | cons d l =>
      simp only [srtB, Bool.and_eq_true, decide_eq_true_eq, ih]
      constructor
      · rintro ⟨h1, h2⟩ i h
        cases i with
        | zero => exact h1
        | succ i => exact h2 i (by simpa using h)
      · intro h
        exact ⟨h 0 (by simp), fun i hi => h (i + 1) (by simpa using hi)⟩

/-- The first k cuts are as they should be. -/
def Fine (l : List (Int × Int)) (k : Nat) : Prop :=
  (∀ i (h : i < l.length), i < k → okB l[i] = true) ∧ (∀ i (h : i + 1 < l.length), i + 1 < k → l[i].1 < l[i + 1].1)
theorem Fine.zero (l : List (Int × Int)) : Fine l 0 := ⟨fun _ _ h => absurd h (by omega), fun _ _ h => absurd h (by omega)⟩
theorem Fine.all {l : List (Int × Int)} (h : Fine l l.length) : validB l = true := by
  simp only [validB, Bool.and_eq_true, srtB_iff]
  refine ⟨List.all_eq_true.2 fun c hc => ?_, fun i hi => h.2 i hi hi⟩
  obtain ⟨i, hi, rfl⟩ := List.getElem_of_mem hc
  exact h.1 i hi hi
theorem Fine.next {l : List (Int × Int)} {k : Nat} (h : Fine l k) (hk : k < l.length) (h1 : okB l[k] = true) (h2 : ∀ (h0 : 0 < k), l[k - 1].1 < l[k].1) : Fine l (k + 1) := by
  refine ⟨fun i hi hik => ?_, fun i hi hik => ?_⟩
  · by_cases e : i = k
    · subst e; exact h1
    · exact h.1 i hi (by omega)
  · by_cases e : i + 1 = k
    · subst e; exact h2 (by omega)
    · exact h.2 i hi (by omega)
theorem not_valid_ok {l : List (Int × Int)} {k : Nat} (hk : k < l.length) (h : okB l[k] = false) : validB l = false := by
  rw [Bool.eq_false_iff]
  intro hv
  simp only [validB, Bool.and_eq_true] at hv
  have := List.all_eq_true.1 hv.1 _ (List.getElem_mem hk)
  rw [h] at this; cases this
theorem not_valid_srt {l : List (Int × Int)} {k : Nat} (hk : k < l.length) (h0 : 0 < k) (h : l[k].1 ≤ l[k - 1].1) : validB l = false := by
  rw [Bool.eq_false_iff]
  intro hv
  simp only [validB, Bool.and_eq_true, srtB_iff] at hv
  have := hv.2 (k - 1) (by omega)
  have e : k - 1 + 1 = k := by omega
  simp only [e] at this
  omega
end Go.Proofs.YtgambpcggengoaaGreatDoor.Cut
