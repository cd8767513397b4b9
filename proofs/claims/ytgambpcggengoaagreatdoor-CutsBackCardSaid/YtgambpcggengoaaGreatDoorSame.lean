/- 'same' of the law tells whether two lists are alike. -/
import Derived.Test.YtgambpcggengoaaGreatDoorVal
namespace Go.Proofs.YtgambpcggengoaaGreatDoor
open Go.RowKit
set_option maxRecDepth 100000

/-- What 'same' answers. -/
def sameB (a b : List (Int × Int)) : Bool := decide (a = b)
theorem sameB_len {a b : List (Int × Int)} (h : a.length ≠ b.length) : false = sameB a b := by
  symm; rw [sameB, decide_eq_false_iff_not]; rintro rfl; exact h rfl
theorem sameB_no {a b : List (Int × Int)} {k : Nat} (ha : k < a.length) (hb : k < b.length) (h : a[k] ≠ b[k]) : false = sameB a b := by
  symm; rw [sameB, decide_eq_false_iff_not]; rintro rfl; exact h rfl
theorem sameB_yes {a b : List (Int × Int)} (hl : a.length = b.length) (h : ∀ i (ha : i < a.length) (hb : i < b.length), a[i] = b[i]) : true = sameB a b := by
  symm; rw [sameB, decide_eq_true_eq]; exact List.ext_getElem hl fun i h1 h2 => h i h1 h2
def Alike (a b : List (Int × Int)) (k : Nat) : Prop := ∀ i (ha : i < a.length) (hb : i < b.length), i < k → a[i] = b[i]
theorem ret_b {a b : Bool} (h : a = b) : Ending.returned (.bool a) = .returned (.bool b) := by rw [h]

set_option maxHeartbeats 4000000 in
theorem same_calls (A B : Option Addr) (c d : Nat) (a b : List (Int × Int)) (w : World) (B0 : Nat) (hla : a.length ≤ 140737488351232) (hlb : b.length ≤ 140737488351232)
    (ha : Cuts w B0 A a) (hb : Cuts w B0 B b) :
    Calls Tryz.prog 9 #[.slice A a.length c, .slice B b.length d] w fun e w' => e = .returned (.bool (sameB a b)) ∧ ∃ n, w' = w.drewN n := by
  have HA := Lib.hid ha
  have HB := Lib.hid hb
  clear ha hb
  by_cases hl : a.length = b.length
  · obtain ⟨n, hn⟩ : ∃ n, n = a.length := ⟨_, rfl⟩
    have hm : b.length = n := by omega
    rw [hm, ← hn]
    have hn' : n ≤ 140737488351232 := by omega
    have HN := Lib.hid hn; have HM := Lib.hid hm; have HL := Lib.hid hl
    clear hn hm hl hla hlb
    go_enter Tryz.func9, Tryz.ntmps9
    go_wp2
    go_loopw [5] (fun i wr => ∃ k : Nat, k ≤ n ∧ i = .int .i64 k ∧ Hid (Alike a b k) ∧ ∃ q, wr = w.drewN q) (fun i _ => n - (intOf i).toNat)
    case atStart => exact ⟨0, Nat.zero_le _, rfl, fun _ _ _ h => absurd h (by omega), 0, rfl⟩
    case round =>
      obtain ⟨k, hk, rfl, hF, q, rfl⟩ := hrel
      by_cases hlt : k < n
      · have hka : k < a.length := by have := HN.out; omega
        have hkb : k < b.length := by have := HM.out; omega
        obtain ⟨ada, rfl, _, g0, g1⟩ := HA.out.at_ k hka
        obtain ⟨adb, rfl, _, g2, g3⟩ := HB.out.at_ k hkb
        obtain ⟨⟨f, s⟩, hf⟩ : ∃ x, x = a[k] := ⟨_, rfl⟩
        obtain ⟨⟨g, t⟩, hg⟩ : ∃ x, x = b[k] := ⟨_, rfl⟩
        rw [← hf] at g0 g1
        rw [← hg] at g2 g3
        have Hf := Lib.hid hf; have Hg := Lib.hid hg
        clear hf hg
        by_cases e1 : f = g ∧ s = t
        · obtain ⟨rfl, rfl⟩ := e1
          go_wp2
          go_quiet (fail)
          go_wp2
          go_roundw
          case rel => exact ⟨k + 1, by omega, by go_num, fun i h1 h2 h3 => by
              by_cases e : i = k
              · subst e; rw [← Hf.out, ← Hg.out]
              · exact hF.out i h1 h2 (by omega), _, rfl⟩
          case measure => simp [intOf]; omega
        · by_cases h1 : f = g
          · subst h1
            have h2 : ¬ s = t := fun h2 => e1 ⟨rfl, h2⟩
            clear e1
            have H2 := Lib.hid h2
            go_wp2
            go_quiet (fail)
            go_wp2
            go_ret
            exact ⟨ret_b (sameB_no hka hkb (by rw [← Hf.out, ← Hg.out]; intro h; cases h; exact H2.out rfl)), _, World.drewN_drewN _ _ _⟩
          · clear e1
            have H2 := Lib.hid h1
            go_wp2
            go_quiet (fail)
            go_wp2
            go_ret
            exact ⟨ret_b (sameB_no hka hkb (by rw [← Hf.out, ← Hg.out]; intro h; cases h; exact H2.out rfl)), _, World.drewN_drewN _ _ _⟩
      · go_wp2
        go_ret
        exact ⟨ret_b (sameB_yes HL.out fun i h1 h2 => hF.out i h1 h2 (by have := HN.out; omega)), _, rfl⟩
  · have hne : ((a.length : Int) != (b.length : Int)) = true := by rw [bne_iff_ne]; omega
    have HL := Lib.hid hl
    clear hl
    go_enter Tryz.func9, Tryz.ntmps9
    go_wp2
    go_ret
    exact ⟨ret_b (sameB_len HL.out), 0, rfl⟩
end Go.Proofs.YtgambpcggengoaaGreatDoor
