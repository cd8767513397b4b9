/- 'twin' and 'same' of the law. -/
import Derived.Test.YtgambpcggengoaaDoorVal
import Derived.Laws.AppendOwnNone
namespace Go.Proofs.YtgambpcggengoaaDoor
open Go.RowKit
set_option maxRecDepth 100000

theorem cutInfo_ : (Tryd.prog.info? 34).map (fun i => (i.zero, i.size, i.bytes)) = some (some (.agg #[.int .i64 0, .int .i64 0]), 2, 16) := by kernel_rfl

/-- A new list of cuts. -/
def TDone (w : World) (l : List (Int × Int)) (e : Ending) (w' : World) : Prop := ∃ v, e = .returned v ∧
  w'.ownsRow w.heap.size 34 2 v l.length (cutCells l) ∧ Below w.heap.size w w'

theorem twin_calls (A : Option Addr) (c : Nat) (l : List (Int × Int)) (w : World) (hl : l.length * 16 ≤ 140737488351232) (h : Cuts w w.heap.size A l) (hn : A = none → c = 0) :
    Calls Tryd.prog 4 #[.slice A l.length c] w (TDone w l) := by
  obtain ⟨i0, hi0, hz0, hz1, hz2⟩ := info_parts cutInfo_
  cases A with
  | none =>
    obtain rfl : l = [] := by
      cases l with
      | nil => rfl
      | cons x l => obtain ⟨_, e, _⟩ := h.2 (by simp); cases e
    obtain rfl := hn rfl
    go_enter Tryd.func4, Tryd.ntmps4
    go_wp2_with (at_builtin; refine wpList_append_own_none (by rfl) _ _ 22 (by rfl) w.heap.size 34 i0 2 Tryd.underlying22 hi0 (.slice none 0 0) 0 [] (by rfl) (World.ownsRow_nil _ _ _ _) (by rfl) ?_)
    go_ret
    exact ⟨_, rfl, World.ownsRow_nil _ _ _ _, Below.refl _ _⟩
  | some ad =>
    have hc : ∀ j u, (cutCells l)[j]? = some u → w.cell? (ad.add j) = some u := fun j u hu => by
      have hlen : j < (cutCells l).length := (List.getElem?_eq_some_iff.1 hu).1
      obtain ⟨ad', e, _, hcc⟩ := h.2 (by rw [cutCells_len] at hlen; omega)
      cases e
      exact hcc j u hu
    have HC := Lib.hid hc
    clear hc h hn
    go_enter Tryd.func4, Tryd.ntmps4
    go_wp2_with (at_builtin; refine wpList_append_own_at _ (by rfl) _ _ 22 (by rfl) w.heap.size 34 i0 _ 2 16 Tryd.underlying22 hi0 hz0 hz1 hz2 rfl (by omega) (.slice none 0 0) 0 [] (by rfl) (World.ownsRow_nil _ _ _ _) ad l.length c (cutCells l) (by rfl) (cutCells_len l) HC.out (cutCells_one l) (by simp only [maxLen]; omega) (by omega) (Nat.le_refl _) ?_; intro v1 w1 hown1 hg1 hn1 hat1)
    go_ret
    exact ⟨v1, rfl, by simpa using hown1, (Below.refl _ _).grown hg1 (Nat.le_refl _) (by simp [Value.ownBlock])⟩

/-- What 'same' answers. -/
def sameB (a b : List (Int × Int)) : Bool := decide (a = b)
theorem sameB_len {a b : List (Int × Int)} (h : a.length ≠ b.length) : false = sameB a b := by
  symm; rw [sameB, decide_eq_false_iff_not]; rintro rfl; exact h rfl
theorem sameB_no {a b : List (Int × Int)} {k : Nat} (ha : k < a.length) (hb : k < b.length) (h : a[k] ≠ b[k]) : false = sameB a b := by
  symm; rw [sameB, decide_eq_false_iff_not]; rintro rfl; exact h rfl
theorem sameB_yes {a b : List (Int × Int)} (hl : a.length = b.length) (h : ∀ i (ha : i < a.length) (hb : i < b.length), a[i] = b[i]) : true = sameB a b := by
  symm; rw [sameB, decide_eq_true_eq]; exact List.ext_getElem hl fun i h1 h2 => h i h1 h2
def Alike (a b : List (Int × Int)) (k : Nat) : Prop := ∀ i (ha : i < a.length) (hb : i < b.length), i < k → a[i] = b[i]
theorem ret_b {a b : Bool} (h : a = b) : Ending.returned (.bool a) = .returned (.bool b) := by rw [h]

set_option maxHeartbeats 4000000 in
theorem same_calls (A B : Option Addr) (c d : Nat) (a b : List (Int × Int)) (w : World) (B0 : Nat) (hla : a.length ≤ 140737488351232) (hlb : b.length ≤ 140737488351232)
    (ha : Cuts w B0 A a) (hb : Cuts w B0 B b) :
    Calls Tryd.prog 7 #[.slice A a.length c, .slice B b.length d] w fun e w' => e = .returned (.bool (sameB a b)) ∧ ∃ n, w' = w.drewN n := by
  have HA := Lib.hid ha
  have HB := Lib.hid hb
  clear ha hb
  by_cases hl : a.length = b.length
  · obtain ⟨n, hn⟩ : ∃ n, n = a.length := ⟨_, rfl⟩
    have hm : b.length = n := by omega
    rw [hm, ← hn]
    have hn' : n ≤ 140737488351232 := by omega
    have HN := Lib.hid hn; have HM := Lib.hid hm; have HL := Lib.hid hl
    clear hn hm hl hla hlb
    go_enter Tryd.func7, Tryd.ntmps7
    go_wp2
    go_loopw [5] (fun i wr => ∃ k : Nat, k ≤ n ∧ i = .int .i64 k ∧ Hid (Alike a b k) ∧ ∃ q, wr = w.drewN q) (fun i _ => n - (intOf i).toNat)
    case atStart => exact ⟨0, Nat.zero_le _, rfl, fun _ _ _ h => absurd h (by omega), 0, rfl⟩
    case round =>
      obtain ⟨k, hk, rfl, hF, q, rfl⟩ := hrel
      by_cases hlt : k < n
      · have hka : k < a.length := by have := HN.out; omega
        have hkb : k < b.length := by have := HM.out; omega
        obtain ⟨ada, rfl, _, g0, g1⟩ := HA.out.at_ k hka
        obtain ⟨adb, rfl, _, g2, g3⟩ := HB.out.at_ k hkb
        obtain ⟨⟨f, s⟩, hf⟩ : ∃ x, x = a[k] := ⟨_, rfl⟩
        obtain ⟨⟨g, t⟩, hg⟩ : ∃ x, x = b[k] := ⟨_, rfl⟩
        rw [← hf] at g0 g1
        rw [← hg] at g2 g3
        have Hf := Lib.hid hf; have Hg := Lib.hid hg
        clear hf hg
        by_cases e1 : f = g ∧ s = t
        · obtain ⟨rfl, rfl⟩ := e1
          go_wp2
          go_quiet (fail)
          go_wp2
          go_roundw
          case rel => exact ⟨k + 1, by omega, by go_num, fun i h1 h2 h3 => by
              by_cases e : i = k
              · subst e; rw [← Hf.out, ← Hg.out]
              · exact hF.out i h1 h2 (by omega), _, rfl⟩
          case measure => simp [intOf]; omega
        · by_cases h1 : f = g
          · subst h1
            have h2 : ¬ s = t := fun h2 => e1 ⟨rfl, h2⟩
            clear e1
            have H2 := Lib.hid h2
            go_wp2
            go_quiet (fail)
            go_wp2
            go_ret
            exact ⟨ret_b (sameB_no hka hkb (by rw [← Hf.out, ← Hg.out]; intro h; cases h; exact H2.out rfl)), _, World.drewN_drewN _ _ _⟩
          · clear e1
            have H2 := Lib.hid h1
            go_wp2
            go_quiet (fail)
            go_wp2
            go_ret
            exact ⟨ret_b (sameB_no hka hkb (by rw [← Hf.out, ← Hg.out]; intro h; cases h; exact H2.out rfl)), _, World.drewN_drewN _ _ _⟩
      · go_wp2
        go_ret
        exact ⟨ret_b (sameB_yes HL.out fun i h1 h2 => hF.out i h1 h2 (by have := HN.out; omega)), _, rfl⟩
  · have hne : ((a.length : Int) != (b.length : Int)) = true := by rw [bne_iff_ne]; omega
    have HL := Lib.hid hl
    clear hl
    go_enter Tryd.func7, Tryd.ntmps7
    go_wp2
    go_ret
    exact ⟨ret_b (sameB_len HL.out), 0, rfl⟩
end Go.Proofs.YtgambpcggengoaaDoor
