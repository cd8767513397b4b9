/- 'cuts.Valid' tells whether a list is one of cuts. -/
import Derived.Test.YtgambpcggengoaaGreatDoorKn
namespace Go.Proofs.YtgambpcggengoaaGreatDoor
open Go.RowKit
set_option maxRecDepth 100000
attribute [local go_sem] run_frombits run_bits store_f store_c

theorem below_two {w w' : World} {T : TypeId} {x y : Value} (hb : Below (w.alloc (.cells #[x, y] T)).heap.size (w.alloc (.cells #[x, y] T)) w') :
    w'.cell? ⟨w.heap.size, 0, none⟩ = some x ∧ w'.cell? ⟨w.heap.size, 1, none⟩ = some y :=
  ⟨(hb.cell (p := ⟨w.heap.size, 0, none⟩) (by simp)).trans (by simp [go_sem]), (hb.cell (p := ⟨w.heap.size, 1, none⟩) (by simp)).trans (by simp [go_sem])⟩
/-- What 'Valid' answers. -/
def validI (l : List (Int × Int)) : Int := if Cut.validB l then 0 else 1
theorem validI_no {l : List (Int × Int)} (h : Cut.validB l = false) : 1 = validI l := by simp [validI, h]
theorem validI_yes {l : List (Int × Int)} (h : Cut.validB l = true) : 0 = validI l := by simp [validI, h]
theorem ret_i {a b : Int} (h : a = b) : Ending.returned (.int .i64 a) = .returned (.int .i64 b) := by rw [h]

set_option maxHeartbeats 8000000 in
theorem valid_calls (A : Option Addr) (c : Nat) (l : List (Int × Int)) (w : World) (hl : l.length ≤ c) (hc : l.length ≤ 140737488351232) (h : Cuts w w.heap.size A l) :
    Calls Tryz.prog 11 #[.slice A l.length c] w fun e w' => e = .returned (.int .i64 (validI l)) ∧ Below w.heap.size w w' := by
  have HH := Lib.hid h
  clear h
  go_enter Tryz.func11, Tryz.ntmps11
  go_wp2
  go_loopw [9] (fun i wr => ∃ k : Nat, k ≤ l.length ∧ i = .int .i64 k ∧ Hid (Cut.Fine l k) ∧ Below w.heap.size w wr) (fun i _ => l.length - (intOf i).toNat)
  case atStart => exact ⟨0, Nat.zero_le _, rfl, Cut.Fine.zero l, Below.refl _ _⟩
  case round =>
    obtain ⟨k, hk, rfl, hF, hb⟩ := hrel
    by_cases hlt : k < l.length
    · obtain ⟨ad, rfl, hab, h1, h2⟩ := HH.out.at_ k hlt
      have g1 : wr.cell? (ad.add (k * 2)) = some (.int .i64 l[k].1) := (hb.cell (by rw [addr_block]; exact hab)).trans h1
      have g2 : wr.cell? ⟨(ad.add (k * 2)).block, (ad.add (k * 2)).off + 1, none⟩ = some (.int .i64 l[k].2) := (hb.cell (by show (ad.add (k * 2)).block < _; rw [addr_block]; exact hab)).trans h2
      clear h1 h2
      obtain ⟨f, hf⟩ : ∃ f, f = l[k].1 := ⟨_, rfl⟩
      obtain ⟨s, hs⟩ : ∃ s, s = l[k].2 := ⟨_, rfl⟩
      rw [← hf] at g1
      rw [← hs] at g2
      have Hf := Lib.hid hf
      have Hs := Lib.hid hs
      clear hf hs
      go_wp2_with fail
      refine (known_calls _ _).mono ?_
      rintro e w1 ⟨rfl, hb1⟩
      obtain ⟨g3, g4⟩ := below_two hb1
      have hb2 : Below w.heap.size w w1 := (hb.alloc hb.size _).trans (hb1.mono (by simp; have := hb.size; omega))
      have HB2 := Lib.hid hb2
      have hz : wr.heap.size < w1.heap.size := by have := hb1.size; simp at this; omega
      clear hb1 hb2
      have gp : 0 < k → ∃ p, p = l[k - 1].1 ∧ ∀ o, (w1.alloc o).cell? (ad.add ((k - 1) * 2)) = some (.int .i64 p) := fun h0 => by
        obtain ⟨ad', e, hab', h1, _⟩ := HH.out.at_ (k - 1) (by omega)
        cases e
        exact ⟨_, rfl, fun o => ((HB2.out.alloc HB2.out.size o).cell (by rw [addr_block]; exact hab)).trans h1⟩
      have HP := Lib.hid gp
      have hend : ∀ o n, Below w.heap.size w ((w1.alloc o).drewN n) := fun o n => (HB2.out.alloc HB2.out.size o).trans ⟨rfl, rfl, rfl, Nat.le_refl _, fun _ _ => rfl⟩
      have Hend := Lib.hid hend
      clear hend
      clear gp
      go_wp2
      cases hkn : Cut.knownB f with
      | false =>
        try rw [hkn]
        go_quiet (fail)
        go_wp2
        go_ret
        exact ⟨ret_i (validI_no (Cut.not_valid_ok hlt (by rw [Cut.okB, ← Hf.out, hkn]; rfl))), Hend.out _ _⟩
      | true =>
        try rw [hkn]
        by_cases c2 : s < 1
        · go_quiet (fail)
          go_wp2
          go_ret
          exact ⟨ret_i (validI_no (Cut.not_valid_ok hlt (by simp only [Cut.okB, ← Hs.out]; simp; omega))), Hend.out _ _⟩
        · by_cases c3 : 3 < s
          · go_quiet (fail)
            go_wp2
            go_ret
            exact ⟨ret_i (validI_no (Cut.not_valid_ok hlt (by simp only [Cut.okB, ← Hs.out]; simp; omega))), Hend.out _ _⟩
          · have hok : Hid (Cut.okB l[k] = true) := by show Cut.okB l[k] = true; simp only [Cut.okB, ← Hs.out, ← Hf.out, hkn]; simp; omega
            by_cases c4 : 0 < k
            · obtain ⟨p, hp, gp⟩ := HP.out c4
              have Hp := Lib.hid hp
              clear hp
              by_cases c5 : f ≤ p
              · go_quiet (fail)
                go_wp2
                go_ret
                exact ⟨ret_i (validI_no (Cut.not_valid_srt hlt c4 (by rw [← Hp.out, ← Hf.out]; exact c5))), Hend.out _ _⟩
              · go_quiet (fail)
                go_wp2
                go_roundw
                case rel => exact ⟨k + 1, by omega, by go_num, hF.out.next hlt hok.out (fun _ => by rw [← Hp.out, ← Hf.out]; omega), Hend.out _ _⟩
                case measure => simp [intOf]; omega
            · have c4 : decide ((0 : Int) < (k : Int)) = false := by simp; omega
              go_quiet (fail)
              go_wp2
              go_roundw
              case rel => exact ⟨k + 1, by omega, by go_num, hF.out.next hlt hok.out (fun h0 => absurd h0 (by simpa using c4)), Hend.out _ _⟩
              case measure => simp [intOf]; omega
    · go_wp2
      go_ret
      have e : k = l.length := by omega
      subst e
      exact ⟨ret_i (validI_yes hF.out.all), hb⟩
end Go.Proofs.YtgambpcggengoaaGreatDoor
