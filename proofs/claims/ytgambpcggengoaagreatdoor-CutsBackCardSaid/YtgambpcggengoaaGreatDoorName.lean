/- 'cuspref23.name' tells the name of a function with a cut. -/
import Derived.Test.YtgambpcggengoaaGreatDoorVal
namespace Go.Proofs.YtgambpcggengoaaGreatDoor
open Go.RowKit
set_option maxRecDepth 100000

/-- the functions, rising; their names in six columns -/
def fnAt (k : Nat) : Int := ([6, 9, 11, 18, 19, 20, 21, 22, 23, 28] : List Int).getD k 0
def nmAll : ByteArray := ⟨#[97, 114, 103, 32, 32, 32, 115, 113, 114, 116, 32, 32, 108, 111, 103, 32, 32, 32, 97, 115, 105, 110, 32, 32, 97, 99, 111, 115, 32, 32, 97, 116, 97, 110, 32, 32, 97, 115, 105, 110, 104, 32, 97, 99, 111, 115, 104, 32, 97, 116, 97, 110, 104, 32, 94, 32, 32, 32, 32, 32]⟩
def pc (k m : Nat) : ByteArray := nmAll.extract (6 * k) (6 * k + m)
def nlen (k : Nat) : Nat := [3, 4, 3, 4, 4, 4, 5, 5, 5, 1].getD k 0
def lastB (k m : Nat) : Int := (((pc k m).data[m - 1]?).getD 0).toNat

theorem pc_facts : ∀ k, k < 10 → ∀ m, m ≤ 6 → (pc k m).size = m ∧ (pc k m).extract 0 (m - 1) = pc k (m - 1) ∧ (nlen k < m → lastB k m = 32) ∧ (nlen k = m → lastB k m ≠ 32) ∧ pc k (nlen k) = knN (fnAt k) ∧ 1 ≤ nlen k ∧ nlen k ≤ 6 := by decide +kernel
theorem fnAt_ge : ∀ k, k < 10 → Cut.knownB (fnAt k) = true := by decide
theorem unknown_ {f : Int} (h : ∀ j, j < 10 → fnAt j ≠ f) : knN f = ⟨#[]⟩ := by
  have h0 := h 0 (by omega); have h1 := h 1 (by omega); have h2 := h 2 (by omega); have h3 := h 3 (by omega); have h4 := h 4 (by omega)
  have h5 := h 5 (by omega); have h6 := h 6 (by omega); have h7 := h 7 (by omega); have h8 := h 8 (by omega); have h9 := h 9 (by omega)
  simp only [fnAt, List.getD, List.getElem?_cons_zero, List.getElem?_cons_succ, Option.getD_some] at *
  unfold knN
  simp only [Ne.symm h0, Ne.symm h1, Ne.symm h2, Ne.symm h3, Ne.symm h4, Ne.symm h5, Ne.symm h6, Ne.symm h7, Ne.symm h8, Ne.symm h9, if_false]

theorem run_pcIdx (k m : Nat) (hk : k < 10) (h1 : 1 ≤ m) (h2 : m ≤ 6) (w : World) :
    (Instr.index 9 (.string (pc k m)) (.int .i64 ((m : Int) - 1))).run Tryz.prog w = .ok (.int .u8 (lastB k m)) w := by
  have hs := (pc_facts k hk m h2).1
  rw [run_index_string (P := Tryz.prog) w 9 (pc k m) .i64 _ Tryz.underlying9, dif_pos (by rw [hs]; omega)]
  have e : ((m : Int) - 1).toNat = m - 1 := by omega
  have hlt : m - 1 < (pc k m).data.size := by have : (pc k m).data.size = m := hs; omega
  simp only [e, lastB, Array.getElem?_eq_getElem hlt, Option.getD_some]
  rfl
theorem run_pcCut (k m : Nat) (hk : k < 10) (h1 : 1 ≤ m) (h2 : m ≤ 6) (w : World) :
    (Instr.slice 9 (.string (pc k m)) none (some (.int .i64 ((m : Int) - 1))) none).run Tryz.prog w = .ok (.string (pc k (m - 1))) w := by
  obtain ⟨hs, he, _⟩ := pc_facts k hk m h2
  rw [← he]
  generalize pc k m = s at *
  clear he
  have h2 : (m : Int) - 1 ≤ (s.size : Int) := by omega
  have h3 : (0 : Int) ≤ (m : Int) - 1 := by omega
  go_simp
  intro h
  have := h (by omega)
  omega
theorem run_pcWhole (k : Nat) (hk : k < 10) (w : World) :
    (Instr.slice 9 (.string ⟨#[97, 114, 103, 32, 32, 32, 115, 113, 114, 116, 32, 32, 108, 111, 103, 32, 32, 32, 97, 115, 105, 110, 32, 32, 97, 99, 111, 115, 32, 32, 97, 116, 97, 110, 32, 32, 97, 115, 105, 110, 104, 32, 97, 99, 111, 115, 104, 32, 97, 116, 97, 110, 104, 32, 94, 32, 32, 32, 32, 32]⟩)
      (some (.int .i64 ((k : Int) * 6))) (some (.int .i64 ((k : Int) * 6 + 6))) none).run Tryz.prog w = .ok (.string (pc k 6)) w := by
  have e : nmAll.extract (6 * k) (6 * k + 6) = nmAll.extract ((k : Int) * 6).toNat ((k : Int) * 6 + 6).toNat := by
    rw [show ((k : Int) * 6).toNat = 6 * k by omega, show ((k : Int) * 6 + 6).toNat = 6 * k + 6 by omega]
  have hs : nmAll.size = 60 := by decide
  show (Instr.slice 9 (.string nmAll) (some (.int .i64 ((k : Int) * 6))) (some (.int .i64 ((k : Int) * 6 + 6))) none).run Tryz.prog w = .ok (.string (pc k 6)) w
  rw [pc, e]
  generalize nmAll = s at *
  rw [run_slice_string_if (P := Tryz.prog) (w := w) 9 s .i64 .i64 _ _ Tryz.underlying9, if_pos (by omega), if_pos (by omega)]

theorem functions_calls (w : World) : Calls Tryz.prog 22 #[] w fun e w' => e = .returned (.slice (some ⟨w.heap.size, 0, none⟩) 10 10) ∧ (∀ j, j < 10 → w'.cell? ⟨w.heap.size, j, none⟩ = some (.int .i64 (fnAt j))) ∧ Below w.heap.size w w' ∧ w.heap.size < w'.heap.size := by
  go_enter Tryz.func22, Tryz.ntmps22
  go_wp2
  go_ret
  refine ⟨rfl, fun j hj => ?_, (Below.refl _ _).alloc (Nat.le_refl _) _, by simp⟩
  match j, hj with
  | 0, _ => simp [go_sem, fnAt]
  | 1, _ => simp [go_sem, fnAt]
  | 2, _ => simp [go_sem, fnAt]
  | 3, _ => simp [go_sem, fnAt]
  | 4, _ => simp [go_sem, fnAt]
  | 5, _ => simp [go_sem, fnAt]
  | 6, _ => simp [go_sem, fnAt]
  | 7, _ => simp [go_sem, fnAt]
  | 8, _ => simp [go_sem, fnAt]
  | 9, _ => simp [go_sem, fnAt]

theorem ret_s {a b : ByteArray} (h : a = b) : Ending.returned (.string a) = .returned (.string b) := by rw [h]

set_option maxHeartbeats 4000000 in
theorem name_calls (f : Int) (w : World) : Calls Tryz.prog 17 #[.int .i64 f] w fun e w' => e = .returned (.string (knN f)) ∧ Below w.heap.size w w' := by
  go_enter Tryz.func17, Tryz.ntmps17
  go_wp2_with fail
  refine (functions_calls _).mono ?_
  rintro e w1 ⟨rfl, hc, hb, hz⟩
  have HC := Lib.hid hc
  clear hc
  go_wp2
  go_loopw [4] (fun i wr => ∃ k : Nat, k ≤ 10 ∧ i = .int .i64 k ∧ Hid (∀ j, j < k → fnAt j ≠ f) ∧ w1 = wr) (fun i _ => 10 - (intOf i).toNat)
  case atStart => exact ⟨0, by omega, rfl, fun j hj => absurd hj (by omega), rfl⟩
  case round =>
    obtain ⟨k, hk, rfl, hF, rfl⟩ := hrel
    by_cases hlt : k < 10
    · have g := HC.out k hlt
      by_cases e : fnAt k = f
      · subst e
        have hsl := fun (W : World) => run_pcWhole k hlt W
        obtain ⟨_, _, _, _, hfin, hl1, hl2⟩ := pc_facts k hlt 6 (by omega)
        have HFin := Lib.hid hfin
        clear hfin hF
        go_wp2
        go_loopw [5] (fun v wr => ∃ m : Nat, m ≤ 6 ∧ nlen k ≤ m ∧ v = .string (pc k m) ∧ wr = w1) (fun v _ => match v with | .string s => s.size | _ => 0)
        case atStart => exact ⟨6, by omega, by omega, rfl, rfl⟩
        case round =>
          obtain ⟨m, hm6, hm1, rfl, rfl⟩ := hrel
          obtain ⟨hs, _, ha, hb', _⟩ := pc_facts k hlt m hm6
          have hix := fun (W : World) => run_pcIdx k m hlt (by omega) hm6 W
          have hct := fun (W : World) => run_pcCut k m hlt (by omega) hm6 W
          have hm1' : (1 : Int) ≤ (m : Int) := by omega
          by_cases hn : nlen k < m
          · have hlast := ha hn
            clear ha hb'
            go_wp2
            go_roundw
            case rel => exact ⟨m - 1, by omega, by omega, rfl, by first | rfl | trivial⟩
            case measure => have h5 := (pc_facts k hlt (m - 1) (by omega)).1; simp [hs, h5]; omega
          · have hm : m = nlen k := by omega
            have hlast : (lastB k m == 32) = false := by rw [beq_eq_false_iff_ne]; exact hb' hm.symm
            have HM := Lib.hid hm
            clear ha hb' hm
            go_wp2
            go_ret
            exact ⟨ret_s (by rw [HM.out]; exact HFin.out), hb⟩
      · obtain ⟨x, hx⟩ : ∃ x, x = fnAt k := ⟨_, rfl⟩
        rw [← hx] at g e
        have Hx := Lib.hid hx
        clear hx
        have e' : (x == f) = false := by rw [beq_eq_false_iff_ne]; exact e
        have E := Lib.hid e
        clear e
        go_wp2
        go_roundw
        case rel => exact ⟨k + 1, by omega, by go_num, fun j hj => by
          by_cases h : j = k
          · subst h; rw [← Hx.out]; exact E.out
          · exact hF.out j (by omega), by first | rfl | trivial⟩
        case measure => simp [intOf]; omega
    · go_wp2
      go_ret
      exact ⟨ret_s (unknown_ (fun j hj => hF.out j (by omega))).symm, hb⟩
end Go.Proofs.YtgambpcggengoaaGreatDoor
