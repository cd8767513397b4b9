/- 'cuspref23.Valid' tells whether a list is one of cuts. -/
import Derived.Test.YtgambpcggengoaaGreatDoorName
import Derived.Test.YtgambpcggengoaaGreatDoorQ
namespace Go.Proofs.YtgambpcggengoaaGreatDoor
open Go.RowKit
set_option maxRecDepth 100000

theorem knN_no {f : Int} (h : Cut.knownB f = false) : knN f = ⟨#[]⟩ := by
  simp only [Cut.knownB, Bool.or_eq_false_iff, beq_eq_false_iff_ne] at h
  obtain ⟨⟨⟨⟨⟨⟨⟨⟨⟨h1, h2⟩, h3⟩, h4⟩, h5⟩, h6⟩, h7⟩, h8⟩, h9⟩, h10⟩ := h
  unfold knN
  simp only [h1, h2, h3, h4, h5, h6, h7, h8, h9, h10, if_false]
theorem knN_yes {f : Int} (h : Cut.knownB f = true) : (knN f).toList.isEmpty = false ∧ ¬ (knN f).toList = [] := by
  simp only [Cut.knownB, Bool.or_eq_true, beq_iff_eq] at h
  rcases h with ((((((((h | h) | h) | h) | h) | h) | h) | h) | h) | h <;> subst h <;> decide +kernel

theorem below_drawn {B n : Nat} {w wr w3 : World} (h : Below B w wr) (hg : Below (wr.drewN n).heap.size (wr.drewN n) w3) (hB : B ≤ wr.heap.size) : Below B w w3 :=
  (h.trans (show Below B wr (wr.drewN n) from ⟨rfl, rfl, rfl, Nat.le_refl _, fun _ _ => rfl⟩)).trans (hg.mono hB)

set_option maxHeartbeats 8000000 in
theorem rvalid_calls (A : Option Addr) (c : Nat) (l : List (Int × Int)) (w : World) (hl : l.length ≤ c) (hc : l.length ≤ 140737488351232) (h : Cuts w w.heap.size A l) :
    Calls Tryz.prog 16 #[.slice A l.length c] w fun e w' => e = .returned (.int .i64 (validI l)) ∧ Below w.heap.size w w' := by
  have HH := Lib.hid h
  clear h
  go_enter Tryz.func16, Tryz.ntmps16
  go_wp2
  go_loopw [3] (fun i wr => ∃ k : Nat, k ≤ l.length ∧ i = .int .i64 k ∧ Hid (Cut.Fine l k) ∧ Below w.heap.size w wr) (fun i _ => l.length - (intOf i).toNat)
  case atStart => exact ⟨0, Nat.zero_le _, rfl, Cut.Fine.zero l, Below.refl _ _⟩
  case round =>
    obtain ⟨k, hk, rfl, hF, hb⟩ := hrel
    by_cases hlt : k < l.length
    · obtain ⟨ad, rfl, hab, h1, h2⟩ := HH.out.at_ k hlt
      have g1 : wr.cell? (ad.add (k * 2)) = some (.int .i64 l[k].1) := (hb.cell (by rw [addr_block]; exact hab)).trans h1
      have g2 : wr.cell? ⟨(ad.add (k * 2)).block, (ad.add (k * 2)).off + 1, none⟩ = some (.int .i64 l[k].2) := (hb.cell (by show (ad.add (k * 2)).block < _; rw [addr_block]; exact hab)).trans h2
      clear h1 h2
      obtain ⟨f, hf⟩ : ∃ f, f = l[k].1 := ⟨_, rfl⟩
      obtain ⟨s, hs⟩ : ∃ s, s = l[k].2 := ⟨_, rfl⟩
      rw [← hf] at g1
      rw [← hs] at g2
      have Hf := Lib.hid hf
      have Hs := Lib.hid hs
      clear hf hs
      have gp : 0 < k → ∃ p, p = l[k - 1].1 ∧ wr.cell? (ad.add ((k - 1) * 2)) = some (.int .i64 p) := fun h0 => by
        obtain ⟨ad', e, hab', h1, _⟩ := HH.out.at_ (k - 1) (by omega)
        cases e
        exact ⟨_, rfl, (hb.cell (by rw [addr_block]; exact hab)).trans h1⟩
      have HP := Lib.hid gp
      clear gp
      have bz : (ad.add (k * 2)).block < wr.heap.size := by rw [addr_block]; have := hb.size; omega
      have bz2 : (ad.add ((k - 1) * 2)).block < wr.heap.size := by rw [addr_block]; have := hb.size; omega
      cases hkn : Cut.knownB f with
      | false =>
        obtain ⟨nm, hnm⟩ : ∃ nm, nm = knN f := ⟨_, rfl⟩
        have e0 : nm = ⟨#[]⟩ := by rw [hnm, knN_no hkn]
        have HN := Lib.hid hnm; have HK := Lib.hid hkn
        clear hnm hkn
        --CASE a
        have e1 : nm.toList.isEmpty = true := by rw [e0]; decide +kernel
        have e2 : nm.toList = [] := by rw [e0]; decide +kernel
        have hd1 : (nm.toList == ([] : List UInt8)) = true := by rw [e2]; rfl
        have hd2 := True.intro
        have hd3 := True.intro
        have hd4 := True.intro
        have hd5 := True.intro
        clear e0
        have HS : Hid (∀ w', Below wr.heap.size wr w' → (w'.cell? (ad.add (k * 2)) = some (.int .i64 f) ∧ w'.cell? ⟨(ad.add (k * 2)).block, (ad.add (k * 2)).off + 1, none⟩ = some (.int .i64 s))) := fun w' hC => ⟨(hC.cell (p := ad.add (k * 2)) bz).trans g1, (hC.cell (p := ⟨(ad.add (k * 2)).block, (ad.add (k * 2)).off + 1, none⟩) bz).trans g2⟩
        go_wp2
        refine wp_region_quiet (C := fun w' => Below wr.heap.size wr w') (by kernel_rfl) (by kernel_rfl) (below_draw _ _) ?_
        simp only []
        repeat (first
          | go_big_quiet_skip
          | (go_big_quiet_want
             first
             | (refine q_held HS.out (v := ?_) ?_ ?_
                rotate_left
                · rintro w' ⟨s0, s1⟩
                  go_simp
                  with_reducible rfl
                simp only [Act.put, List.setIfInBounds_toArray, List.set_cons_zero, List.set_cons_succ]
                (try simp only [hd1, hd2, hd3, hd4, hd5])
                go_big_quiet_on)
             | (refine q_call (f := 17) (args := #[.int .i64 f]) (v := .string nm) ?_ ?_ ?_
                · intro w'
                  go_simp
                · intro w' hC
                  rw [HN.out]
                  exact calls_in (name_calls f w') hC hC.size
                simp only [Act.put, List.setIfInBounds_toArray, List.set_cons_zero, List.set_cons_succ]
                (try simp only [hd1, hd2, hd3, hd4, hd5])
                go_big_quiet_on)))
        refine wpQuiet_nil ?_
        intro w1 hC1
        go_wp2
        go_ret
        exact ⟨ret_i (validI_no (Cut.not_valid_ok hlt (by rw [Cut.okB, ← Hf.out, HK.out]; rfl))), hb.trans (hC1.mono hb.size)⟩
        --END a
      | true =>
        obtain ⟨nm, hnm⟩ : ∃ nm, nm = knN f := ⟨_, rfl⟩
        obtain ⟨e0, e1⟩ := knN_yes hkn
        rw [← hnm] at e0 e1
        have HN := Lib.hid hnm; have HK := Lib.hid hkn
        clear hnm hkn
        by_cases c2 : s < 1
        · skip
          --CASE b
          have hd1 : decide (s < 1) = true := decide_eq_true c2
          have hd2 := True.intro
          have hd3 := True.intro
          have hd4 := True.intro
          have hd5 := True.intro
          have HS : Hid (∀ w', Below wr.heap.size wr w' → (w'.cell? (ad.add (k * 2)) = some (.int .i64 f) ∧ w'.cell? ⟨(ad.add (k * 2)).block, (ad.add (k * 2)).off + 1, none⟩ = some (.int .i64 s))) := fun w' hC => ⟨(hC.cell (p := ad.add (k * 2)) bz).trans g1, (hC.cell (p := ⟨(ad.add (k * 2)).block, (ad.add (k * 2)).off + 1, none⟩) bz).trans g2⟩
          go_wp2
          refine wp_region_quiet (C := fun w' => Below wr.heap.size wr w') (by kernel_rfl) (by kernel_rfl) (below_draw _ _) ?_
          simp only []
          repeat (first
            | go_big_quiet_skip
            | (go_big_quiet_want
               first
               | (refine q_held HS.out (v := ?_) ?_ ?_
                  rotate_left
                  · rintro w' ⟨s0, s1⟩
                    go_simp
                    with_reducible rfl
                  simp only [Act.put, List.setIfInBounds_toArray, List.set_cons_zero, List.set_cons_succ]
                  (try simp only [hd1, hd2, hd3, hd4, hd5])
                  go_big_quiet_on)
               | (refine q_call (f := 17) (args := #[.int .i64 f]) (v := .string nm) ?_ ?_ ?_
                  · intro w'
                    go_simp
                  · intro w' hC
                    rw [HN.out]
                    exact calls_in (name_calls f w') hC hC.size
                  simp only [Act.put, List.setIfInBounds_toArray, List.set_cons_zero, List.set_cons_succ]
                  (try simp only [hd1, hd2, hd3, hd4, hd5])
                  go_big_quiet_on)))
          refine wpQuiet_nil ?_
          intro w1 hC1
          go_wp2
          go_ret
          exact ⟨ret_i (validI_no (Cut.not_valid_ok hlt (by simp only [Cut.okB, ← Hs.out]; simp; omega))), hb.trans (hC1.mono hb.size)⟩
          --END b
        · by_cases c3 : 3 < s
          · skip
            --CASE c
            have hd1 : decide (s < 1) = false := decide_eq_false c2
            have hd2 : decide (3 < s) = true := decide_eq_true c3
            have hd3 := True.intro
            have hd4 := True.intro
            have hd5 := True.intro
            have HS : Hid (∀ w', Below wr.heap.size wr w' → (w'.cell? (ad.add (k * 2)) = some (.int .i64 f) ∧ w'.cell? ⟨(ad.add (k * 2)).block, (ad.add (k * 2)).off + 1, none⟩ = some (.int .i64 s))) := fun w' hC => ⟨(hC.cell (p := ad.add (k * 2)) bz).trans g1, (hC.cell (p := ⟨(ad.add (k * 2)).block, (ad.add (k * 2)).off + 1, none⟩) bz).trans g2⟩
            go_wp2
            refine wp_region_quiet (C := fun w' => Below wr.heap.size wr w') (by kernel_rfl) (by kernel_rfl) (below_draw _ _) ?_
            simp only []
            repeat (first
              | go_big_quiet_skip
              | (go_big_quiet_want
                 first
                 | (refine q_held HS.out (v := ?_) ?_ ?_
                    rotate_left
                    · rintro w' ⟨s0, s1⟩
                      go_simp
                      with_reducible rfl
                    simp only [Act.put, List.setIfInBounds_toArray, List.set_cons_zero, List.set_cons_succ]
                    (try simp only [hd1, hd2, hd3, hd4, hd5])
                    go_big_quiet_on)
                 | (refine q_call (f := 17) (args := #[.int .i64 f]) (v := .string nm) ?_ ?_ ?_
                    · intro w'
                      go_simp
                    · intro w' hC
                      rw [HN.out]
                      exact calls_in (name_calls f w') hC hC.size
                    simp only [Act.put, List.setIfInBounds_toArray, List.set_cons_zero, List.set_cons_succ]
                    (try simp only [hd1, hd2, hd3, hd4, hd5])
                    go_big_quiet_on)))
            refine wpQuiet_nil ?_
            intro w1 hC1
            go_wp2
            go_ret
            exact ⟨ret_i (validI_no (Cut.not_valid_ok hlt (by simp only [Cut.okB, ← Hs.out]; simp; omega))), hb.trans (hC1.mono hb.size)⟩
            --END c
          · have hok : Hid (Cut.okB l[k] = true) := by show Cut.okB l[k] = true; simp only [Cut.okB, ← Hs.out, ← Hf.out, HK.out]; simp; omega
            by_cases c4 : 0 < k
            · obtain ⟨p, hp, gp⟩ := HP.out c4
              have Hp := Lib.hid hp
              clear hp
              by_cases c5 : f ≤ p
              · skip
                --CASE d
                have hd1 : decide (s < 1) = false := decide_eq_false c2
                have hd2 : decide (3 < s) = false := decide_eq_false c3
                have hd3 : decide ((0 : Int) < (k : Int)) = true := decide_eq_true (by omega)
                have hd4 : decide (f ≤ p) = true := decide_eq_true c5
                have hd5 : IntKind.i64.wrap ((k : Int) - 1) = ((k - 1 : Nat) : Int) := by rw [IntKind.wrap_i64]; omega
                have hd6 : k - 1 < l.length := by omega
                have HS : Hid (∀ w', Below wr.heap.size wr w' → (w'.cell? (ad.add (k * 2)) = some (.int .i64 f) ∧ w'.cell? ⟨(ad.add (k * 2)).block, (ad.add (k * 2)).off + 1, none⟩ = some (.int .i64 s) ∧ w'.cell? (ad.add ((k - 1) * 2)) = some (.int .i64 p))) := fun w' hC => ⟨(hC.cell (p := ad.add (k * 2)) bz).trans g1, (hC.cell (p := ⟨(ad.add (k * 2)).block, (ad.add (k * 2)).off + 1, none⟩) bz).trans g2, (hC.cell (p := ad.add ((k - 1) * 2)) bz2).trans gp⟩
                go_wp2
                refine wp_region_quiet (C := fun w' => Below wr.heap.size wr w') (by kernel_rfl) (by kernel_rfl) (below_draw _ _) ?_
                simp only []
                repeat (first
                  | go_big_quiet_skip
                  | (go_big_quiet_want
                     first
                     | (refine q_held HS.out (v := ?_) ?_ ?_
                        rotate_left
                        · rintro w' ⟨s0, s1, s2⟩
                          go_simp
                          with_reducible rfl
                        simp only [Act.put, List.setIfInBounds_toArray, List.set_cons_zero, List.set_cons_succ]
                        (try simp only [hd1, hd2, hd3, hd4, hd5])
                        go_big_quiet_on)
                     | (refine q_call (f := 17) (args := #[.int .i64 f]) (v := .string nm) ?_ ?_ ?_
                        · intro w'
                          go_simp
                        · intro w' hC
                          rw [HN.out]
                          exact calls_in (name_calls f w') hC hC.size
                        simp only [Act.put, List.setIfInBounds_toArray, List.set_cons_zero, List.set_cons_succ]
                        (try simp only [hd1, hd2, hd3, hd4, hd5])
                        go_big_quiet_on)))
                refine wpQuiet_nil ?_
                intro w1 hC1
                go_wp2
                go_ret
                exact ⟨ret_i (validI_no (Cut.not_valid_srt hlt c4 (by rw [← Hp.out, ← Hf.out]; exact c5))), hb.trans (hC1.mono hb.size)⟩
                --END d
              · skip
                --CASE e
                have hd1 : decide (s < 1) = false := decide_eq_false c2
                have hd2 : decide (3 < s) = false := decide_eq_false c3
                have hd3 : decide ((0 : Int) < (k : Int)) = true := decide_eq_true (by omega)
                have hd4 : decide (f ≤ p) = false := decide_eq_false c5
                have hd5 : IntKind.i64.wrap ((k : Int) - 1) = ((k - 1 : Nat) : Int) := by rw [IntKind.wrap_i64]; omega
                have hd6 : k - 1 < l.length := by omega
                have HS : Hid (∀ w', Below wr.heap.size wr w' → (w'.cell? (ad.add (k * 2)) = some (.int .i64 f) ∧ w'.cell? ⟨(ad.add (k * 2)).block, (ad.add (k * 2)).off + 1, none⟩ = some (.int .i64 s) ∧ w'.cell? (ad.add ((k - 1) * 2)) = some (.int .i64 p))) := fun w' hC => ⟨(hC.cell (p := ad.add (k * 2)) bz).trans g1, (hC.cell (p := ⟨(ad.add (k * 2)).block, (ad.add (k * 2)).off + 1, none⟩) bz).trans g2, (hC.cell (p := ad.add ((k - 1) * 2)) bz2).trans gp⟩
                go_wp2
                refine wp_region_quiet (C := fun w' => Below wr.heap.size wr w') (by kernel_rfl) (by kernel_rfl) (below_draw _ _) ?_
                simp only []
                repeat (first
                  | go_big_quiet_skip
                  | (go_big_quiet_want
                     first
                     | (refine q_held HS.out (v := ?_) ?_ ?_
                        rotate_left
                        · rintro w' ⟨s0, s1, s2⟩
                          go_simp
                          with_reducible rfl
                        simp only [Act.put, List.setIfInBounds_toArray, List.set_cons_zero, List.set_cons_succ]
                        (try simp only [hd1, hd2, hd3, hd4, hd5])
                        go_big_quiet_on)
                     | (refine q_call (f := 17) (args := #[.int .i64 f]) (v := .string nm) ?_ ?_ ?_
                        · intro w'
                          go_simp
                        · intro w' hC
                          rw [HN.out]
                          exact calls_in (name_calls f w') hC hC.size
                        simp only [Act.put, List.setIfInBounds_toArray, List.set_cons_zero, List.set_cons_succ]
                        (try simp only [hd1, hd2, hd3, hd4, hd5])
                        go_big_quiet_on)))
                refine wpQuiet_nil ?_
                intro w1 hC1
                go_wp2
                go_roundw
                case rel => exact ⟨k + 1, by omega, by go_num, hF.out.next hlt hok.out (fun _ => by rw [← Hp.out, ← Hf.out]; omega), hb.trans (hC1.mono hb.size)⟩
                case measure => simp [intOf]; omega
                --END e
            · skip
              --CASE f
              have hd1 : decide (s < 1) = false := decide_eq_false c2
              have hd2 : decide (3 < s) = false := decide_eq_false c3
              have hd3 : decide ((0 : Int) < (k : Int)) = false := decide_eq_false (by omega)
              have hd4 := True.intro
              have hd5 := True.intro
              have HS : Hid (∀ w', Below wr.heap.size wr w' → (w'.cell? (ad.add (k * 2)) = some (.int .i64 f) ∧ w'.cell? ⟨(ad.add (k * 2)).block, (ad.add (k * 2)).off + 1, none⟩ = some (.int .i64 s))) := fun w' hC => ⟨(hC.cell (p := ad.add (k * 2)) bz).trans g1, (hC.cell (p := ⟨(ad.add (k * 2)).block, (ad.add (k * 2)).off + 1, none⟩) bz).trans g2⟩
              go_wp2
              refine wp_region_quiet (C := fun w' => Below wr.heap.size wr w') (by kernel_rfl) (by kernel_rfl) (below_draw _ _) ?_
              simp only []
              repeat (first
                | go_big_quiet_skip
                | (go_big_quiet_want
                   first
                   | (refine q_held HS.out (v := ?_) ?_ ?_
                      rotate_left
                      · rintro w' ⟨s0, s1⟩
                        go_simp
                        with_reducible rfl
                      simp only [Act.put, List.setIfInBounds_toArray, List.set_cons_zero, List.set_cons_succ]
                      (try simp only [hd1, hd2, hd3, hd4, hd5])
                      go_big_quiet_on)
                   | (refine q_call (f := 17) (args := #[.int .i64 f]) (v := .string nm) ?_ ?_ ?_
                      · intro w'
                        go_simp
                      · intro w' hC
                        rw [HN.out]
                        exact calls_in (name_calls f w') hC hC.size
                      simp only [Act.put, List.setIfInBounds_toArray, List.set_cons_zero, List.set_cons_succ]
                      (try simp only [hd1, hd2, hd3, hd4, hd5])
                      go_big_quiet_on)))
              refine wpQuiet_nil ?_
              intro w1 hC1
              go_wp2
              go_roundw
              case rel => exact ⟨k + 1, by omega, by go_num, hF.out.next hlt hok.out (fun h0 => absurd h0 c4), hb.trans (hC1.mono hb.size)⟩
              case measure => simp [intOf]; omega
              --END f
    · go_wp2
      go_ret
      have e : k = l.length := by omega
      subst e
      exact ⟨ret_i (validI_yes hF.out.all), hb⟩
end Go.Proofs.YtgambpcggengoaaGreatDoor
