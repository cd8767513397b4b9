/- 'cuspref23.Show' tells the text of a list. -/
import Derived.Test.YtgambpcggengoaaGreatDoorShow
import Derived.Test.YtgambpcggengoaaGreatDoorRVal
import Derived.Test.YtgambpcggengoaaGreatDoorTxt
namespace Go.Proofs.YtgambpcggengoaaGreatDoor
open Go.RowKit
set_option maxRecDepth 100000

theorem rside_calls (s : Int) (w : World) : Calls Tryz.prog 18 #[.int .i64 s] w fun e w' => e = .returned (.string (sdB s)) ∧ w = w' := by
  go_enter Tryz.func18, Tryz.ntmps18
  go_wp2
  all_goals
    go_ret
    refine ⟨?_, rfl⟩
    simp_all [sdB]

set_option maxHeartbeats 4000000 in
theorem rshow_loop (A : Option Addr) (c : Nat) (l : List (Int × Int)) (w : World) (hl : l.length ≤ c) (hc : l.length ≤ 46) (h : Cuts w w.heap.size A l) (hv : Cut.validB l = true) :
    Calls Tryz.prog 6 #[.slice A l.length c] w fun e w' => e = .returned (.tuple #[.string (shB l), .int .i64 0]) ∧ Below w.heap.size w w' := by
  have HH := Lib.hid h; have HV := Lib.hid hv
  clear h hv
  go_enter Tryz.func6, Tryz.ntmps6
  go_wp2_with fail
  refine (rvalid_calls A c l _ hl (by omega) HH.out).mono ?_
  rintro e w1 ⟨rfl, hb1⟩
  have e0 : validI l = 0 := (validI_yes HV.out).symm
  rw [e0]
  clear e0
  go_wp2
  go_loopw [4, 5] (fun v4 i wr => ∃ k : Nat, k ≤ l.length ∧ i = .int .i64 k ∧ v4 = .string (shB (l.take k)) ∧ Below w.heap.size w wr) (fun _ i _ => l.length - (intOf i).toNat)
  case atStart => exact ⟨0, Nat.zero_le _, rfl, rfl, hb1⟩
  case round =>
    clear hb1
    obtain ⟨k, hk, rfl, rfl, hb⟩ := hrel
    by_cases hlt : k < l.length
    · obtain ⟨ad, rfl, hab, h1, h2⟩ := HH.out.at_ k hlt
      have g1 : wr.cell? (ad.add (k * 2)) = some (.int .i64 l[k].1) := (hb.cell (by rw [addr_block]; exact hab)).trans h1
      have g2 : wr.cell? ⟨(ad.add (k * 2)).block, (ad.add (k * 2)).off + 1, none⟩ = some (.int .i64 l[k].2) := (hb.cell (by show (ad.add (k * 2)).block < _; rw [addr_block]; exact hab)).trans h2
      clear h1 h2
      obtain ⟨⟨f, s⟩, hf⟩ : ∃ x, x = l[k] := ⟨_, rfl⟩
      rw [← hf] at g1 g2
      have Hf := Lib.hid hf
      clear hf
      have bz : (ad.add (k * 2)).block < wr.heap.size := by rw [addr_block]; have := hb.size; omega
      have HS : Hid (∀ w', Below wr.heap.size wr w' → (w'.cell? (ad.add (k * 2)) = some (.int .i64 f) ∧ w'.cell? ⟨(ad.add (k * 2)).block, (ad.add (k * 2)).off + 1, none⟩ = some (.int .i64 s))) := fun w' hC => ⟨(hC.cell (p := ad.add (k * 2)) bz).trans g1, (hC.cell (p := ⟨(ad.add (k * 2)).block, (ad.add (k * 2)).off + 1, none⟩) bz).trans g2⟩
      have sz : (shB (l.take k)).size ≤ 598 := by
        have := join_small (l.take k)
        have e : (shB (l.take k)).size = (Lib.join (((l.take k).map itB).map (·.data.toList)) (⟨#[44, 32]⟩ : ByteArray).data.toList).length := rfl
        have e2 : (l.take k).length ≤ 46 := by rw [List.length_take]; omega
        omega
      obtain ⟨t, ht⟩ : ∃ t, t = shB (l.take k) := ⟨_, rfl⟩
      rw [← ht] at sz
      rw [← ht]
      have Ht := Lib.hid ht
      clear ht
      have ks := knN_size f
      have ss := sdB_size s
      obtain ⟨nm, hnm⟩ : ∃ nm, nm = knN f := ⟨_, rfl⟩
      obtain ⟨sd, hsd⟩ : ∃ sd, sd = sdB s := ⟨_, rfl⟩
      rw [← hnm] at ks
      rw [← hsd] at ss
      have HN := Lib.hid hnm; have HD := Lib.hid hsd
      clear hnm hsd
      by_cases h0 : k = 0
      · subst h0
        have ea : ad.add (0 * 2) = ad := rfl
        rw [ea] at HS
        have z1 : ¬ 9223372036854775807 < t.size + nm.size := by omega
        have z2 : ¬ 9223372036854775807 < t.size + nm.size + 1 := by omega
        have z3 : ¬ 9223372036854775807 < t.size + nm.size + 1 + sd.size := by omega
        go_wp2
        refine wp_region_quiet (C := fun w' => Below wr.heap.size wr w') (by kernel_rfl) (by kernel_rfl) (below_draw _ _) ?_
        simp only []
        repeat (first
          | go_big_quiet_skip
          | (go_big_quiet_want
             first
             | (refine q_held HS.out (v := ?_) ?_ ?_
                rotate_left
                · rintro w' ⟨s0, s1⟩
                  go_simp
                  with_reducible rfl
                simp only [Act.put, List.setIfInBounds_toArray, List.set_cons_zero, List.set_cons_succ]
                go_big_quiet_on)
             | (refine q_call (f := 17) (args := #[.int .i64 f]) (v := .string nm) ?_ ?_ ?_
                · intro w'
                  go_simp
                · intro w' hC
                  rw [HN.out]
                  exact calls_in (name_calls f w') hC hC.size
                simp only [Act.put, List.setIfInBounds_toArray, List.set_cons_zero, List.set_cons_succ]
                go_big_quiet_on)
             | (refine q_call (f := 18) (args := #[.int .i64 s]) (v := .string sd) ?_ ?_ ?_
                · intro w'
                  go_simp
                · intro w' hC
                  rw [HD.out]
                  exact (rside_calls s w').mono fun e w2 ⟨he, hw⟩ => ⟨he, by rw [← hw]; exact hC⟩
                simp only [Act.put, List.setIfInBounds_toArray, List.set_cons_zero, List.set_cons_succ]
                go_big_quiet_on)))
        refine wpQuiet_nil ?_
        intro w2 hC2
        go_wp2
        go_roundw
        case rel => exact ⟨0 + 1, by omega, by go_num, by rw [HN.out, HD.out, shB_take0 hlt Hf.out Ht.out], hb.trans (hC2.mono hb.size)⟩
        case measure => simp [intOf]; omega
      · have hk0 : 0 < k := by omega
        have z0 : ¬ 9223372036854775807 < t.size + 2 := by omega
        have z1 : ¬ 9223372036854775807 < t.size + 2 + nm.size := by omega
        have z2 : ¬ 9223372036854775807 < t.size + 2 + nm.size + 1 := by omega
        have z3 : ¬ 9223372036854775807 < t.size + 2 + nm.size + 1 + sd.size := by omega
        go_wp2
        refine wp_region_quiet (C := fun w' => Below wr.heap.size wr w') (by kernel_rfl) (by kernel_rfl) (below_draw _ _) ?_
        simp only []
        repeat (first
          | go_big_quiet_skip
          | (go_big_quiet_want
             first
             | (refine q_held HS.out (v := ?_) ?_ ?_
                rotate_left
                · rintro w' ⟨s0, s1⟩
                  go_simp
                  with_reducible rfl
                simp only [Act.put, List.setIfInBounds_toArray, List.set_cons_zero, List.set_cons_succ]
                go_big_quiet_on)
             | (refine q_call (f := 17) (args := #[.int .i64 f]) (v := .string nm) ?_ ?_ ?_
                · intro w'
                  go_simp
                · intro w' hC
                  rw [HN.out]
                  exact calls_in (name_calls f w') hC hC.size
                simp only [Act.put, List.setIfInBounds_toArray, List.set_cons_zero, List.set_cons_succ]
                go_big_quiet_on)
             | (refine q_call (f := 18) (args := #[.int .i64 s]) (v := .string sd) ?_ ?_ ?_
                · intro w'
                  go_simp
                · intro w' hC
                  rw [HD.out]
                  exact (rside_calls s w').mono fun e w2 ⟨he, hw⟩ => ⟨he, by rw [← hw]; exact hC⟩
                simp only [Act.put, List.setIfInBounds_toArray, List.set_cons_zero, List.set_cons_succ]
                go_big_quiet_on)))
        refine wpQuiet_nil ?_
        intro w2 hC2
        go_wp2
        go_roundw
        case rel => exact ⟨k + 1, by omega, by go_num, by rw [HN.out, HD.out, shB_take hk0 hlt Hf.out Ht.out], hb.trans (hC2.mono hb.size)⟩
        case measure => simp [intOf]; omega
    · obtain rfl : k = l.length := by omega
      rw [List.take_length]
      go_wp2
      refine bodyPost_ret (v := .tuple #[.string (shB l), .int .i64 0]) ?_ rfl ⟨rfl, hb⟩
      simp [results, Tryz.results6, go_sem]
end Go.Proofs.YtgambpcggengoaaGreatDoor
