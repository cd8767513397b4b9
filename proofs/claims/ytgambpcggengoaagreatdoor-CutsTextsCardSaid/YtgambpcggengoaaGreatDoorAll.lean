/- 'cuts.Merge' answers whatever the lists are. -/
import Derived.Test.YtgambpcggengoaaGreatDoorBad
namespace Go.Proofs.YtgambpcggengoaaGreatDoor
open Go.RowKit
set_option maxRecDepth 100000

theorem known_upto {f : Int} (h : Cut.knownB f = true) : 5 < f ∧ f ≤ 28 := by
  simp only [Cut.knownB, Bool.or_eq_true, beq_iff_eq] at h
  omega
theorem srt_len : ∀ (l : List (Int × Int)) (f : Int), f ≤ 28 → Cut.srtB l = true → Cut.Above f l → l.all Cut.okB = true → (l.length : Int) ≤ 28 - f
  | [], f, hf, _, _, _ => by simp; omega
  | c :: l, f, hf, hs, ha, ho => by
    obtain ⟨hs1, hs2⟩ := Cut.srtB_cons hs
    rw [List.all_cons, Bool.and_eq_true] at ho
    have h1 : Cut.knownB c.1 = true := by
      have := ho.1
      simp only [Cut.okB, Bool.and_eq_true] at this
      exact this.1.1
    have h2 := known_upto h1
    have h3 := ha c (by simp)
    have := srt_len l c.1 h2.2 hs1 hs2 ho.2
    simp only [List.length_cons]
    omega
theorem valid_len {l : List (Int × Int)} (h : Cut.validB l = true) : l.length ≤ 23 := by
  simp only [Cut.validB, Bool.and_eq_true] at h
  have := srt_len l 5 (by omega) h.2 (fun c hc => by
    have := List.all_eq_true.1 h.1 c hc
    simp only [Cut.okB, Bool.and_eq_true] at this
    exact (known_upto this.1.1).1) h.1
  omega

theorem own_slice {w : World} {base : Nat} {e : TypeId} {sz : Nat} {v : Value} {n : Nat} {xs : List Value} (h : w.ownsRow base e sz v n xs) : ∃ X c, v = .slice X n c ∧ n ≤ c ∧ (X = none → c = 0) ∧ Rds w w.heap.size sz X n xs := by
  rcases h.2 with ⟨rfl, rfl⟩ | ⟨g, cap, cur, rfl, _, _, hc, _⟩
  · exact ⟨_, _, rfl, Nat.le_refl _, fun _ => rfl, Rds.own h⟩
  · exact ⟨_, _, rfl, hc, fun h => by (cases h), Rds.own h⟩

/-- two lists put together, or none -/
def mres (a b : List (Int × Int)) : List (Int × Int) := if (Cut.validB a && Cut.validB b) then Cut.mrg a b else []
def mcode (a b : List (Int × Int)) : Int := if (Cut.validB a && Cut.validB b) then 0 else 1
theorem mres_len (a b : List (Int × Int)) : (mres a b).length ≤ 46 := by
  unfold mres
  split
  · rename_i h
    simp only [Bool.and_eq_true] at h
    have := valid_len h.1; have := valid_len h.2; have := Cut.mrg_len a b
    omega
  · simp
/-- What either 'Merge' leaves. -/
def MAll (w : World) (a b : List (Int × Int)) (e : Ending) (w' : World) : Prop := ∃ Z cz, e = .returned (.tuple #[.slice Z (mres a b).length cz, .int .i64 (mcode a b)]) ∧
  (mres a b).length ≤ cz ∧ Cuts w' w'.heap.size Z (mres a b) ∧ Below w.heap.size w w'
theorem MAll.of {w : World} {a b : List (Int × Int)} {e : Ending} {w' : World} (h : (Cut.validB a && Cut.validB b) = true) (hd : MDone w a b e w') : MAll w a b e w' := by
  obtain ⟨v, rfl, ho, hb⟩ := hd
  obtain ⟨X, c, rfl, hc, _, hr⟩ := own_slice ho
  have e1 : mres a b = Cut.mrg a b := if_pos h
  have e2 : mcode a b = 0 := if_pos h
  exact ⟨X, c, by rw [e1, e2], by rw [e1]; exact hc, by rw [e1]; exact hr, hb⟩
theorem MAll.no {w : World} {a b : List (Int × Int)} {e : Ending} {w' : World} (h : (Cut.validB a && Cut.validB b) = false) (hd : e = .returned (.tuple #[.slice none 0 0, .int .i64 1]) ∧ Below w.heap.size w w') : MAll w a b e w' := by
  obtain ⟨rfl, hb⟩ := hd
  have e1 : mres a b = [] := if_neg (by rw [h]; decide)
  have e2 : mcode a b = 1 := if_neg (by rw [h]; decide)
  exact ⟨none, 0, by rw [e1, e2]; rfl, by rw [e1]; exact Nat.le_refl _, by rw [e1]; exact Cuts.nil, hb⟩

theorem merge_all (A B : Option Addr) (ca cb : Nat) (a b : List (Int × Int)) (w : World) (hla : a.length ≤ ca) (hlb : b.length ≤ cb) (hca : a.length ≤ 140737488351232) (hcb : b.length ≤ 140737488351232)
    (ha : Cuts w w.heap.size A a) (hb : Cuts w w.heap.size B b) :
    Calls Tryz.prog 12 #[.slice A a.length ca, .slice B b.length cb] w fun e w' => MAll w a b e w' := by
  cases h : (Cut.validB a && Cut.validB b) with
  | true =>
    have h2 := h
    simp only [Bool.and_eq_true] at h2
    exact (merge_loop A B ca cb a b w hla hlb hca hcb ha hb h2.1 h2.2 (by have := valid_len h2.1; have := valid_len h2.2; omega)).mono fun _ _ => MAll.of h
  | false => exact (merge_bad A B ca cb a b w hla hlb hca hcb ha hb h).mono fun _ _ => MAll.no h
end Go.Proofs.YtgambpcggengoaaGreatDoor
