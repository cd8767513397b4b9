/- 'big.Int': the methods that set their receiver from two numbers; words; comparisons.
   'big.Int': sums, quotients, shifts down, single words. -/
import Derived.Test.YtjbdadhggejoiaaGreatDoorM13

namespace Go.Proofs.YtjbdadhggejoiaaGreatDoor
open Go.RowKit
set_option maxRecDepth 100000

theorem cell_keep {w w1 : World} {b o : Nat} {v : Value} (h : Below w.drew.heap.size w.drew w1) (hb : b < w.heap.size) (g : w.cell? ⟨b, o, none⟩ = some v) : w1.cell? ⟨b, o, none⟩ = some v :=
  (h.cell (p := ⟨b, o, none⟩) (show b < w.heap.size from hb)).trans (show w.drew.cell? ⟨b, o, none⟩ = some v from g)
theorem cell_grown {w w1 : World} {b b' o : Nat} {v : Value} (h : w.grownBy w1 (some b')) (hb : b < w.heap.size) (hn : b ≠ b') (g : w.cell? ⟨b, o, none⟩ = some v) : w1.cell? ⟨b, o, none⟩ = some v :=
  (World.cell?_of_block (w := w) (h.block b hb (fun e => hn (Option.some.inj e)))).trans g
theorem cell_keep2 {w w1 w2 : World} {b b' o : Nat} {v : Value} (h : Below w.drew.heap.size w.drew w1) (h2 : w1.grownBy w2 (some b')) (hb : b < w.heap.size) (hn : b ≠ b') (g : w.cell? ⟨b, o, none⟩ = some v) : w2.cell? ⟨b, o, none⟩ = some v :=
  cell_grown h2 (Nat.lt_of_lt_of_le hb h.size) hn (cell_keep h hb g)

set_option maxHeartbeats 4000000 in
theorem imul_calls (b bx by' : Nat) (x y : Int) (w : World) (h2 : Two w b) (hx : IR w bx x) (hy : IR w by' y) (hl : (words x.natAbs).length ≤ 1073741824) (hl2 : (words y.natAbs).length ≤ 1073741824) (hn1 : bx ≠ b) (hn2 : by' ≠ b) :
    Calls Tryz.prog 84 #[.pointer (some ⟨b, 0, none⟩), .pointer (some ⟨bx, 0, none⟩), .pointer (some ⟨by', 0, none⟩)] w fun e w' => Put w b (x * y) e w' := by
  have hbx := hx.lt
  have hby := hy.lt
  obtain ⟨A, c, g1, g2, hc, hcm, hW⟩ := hx.open
  obtain ⟨A2, c2, g3, g4, hc2, hcm2, hW2⟩ := hy.open
  have hn := nmul_calls A A2 c c2 x.natAbs y.natAbs w.drew hc hc2 hl hl2 hW hW2
  have hz : x.natAbs * y.natAbs = (x * y).natAbs := by rw [Int.natAbs_mul]
  have hneg : decide (x * y < 0) = ((decide (x < 0) != decide (y < 0)) && decide (0 < x.natAbs * y.natAbs)) := by
    rw [hz, Bool.eq_iff_iff]
    simp only [Bool.and_eq_true, decide_eq_true_eq, bne_iff_ne, ne_eq, decide_eq_decide]
    rcases Int.lt_trichotomy x 0 with h1 | h1 | h1 <;> rcases Int.lt_trichotomy y 0 with h2 | h2 | h2
    · have := Int.mul_pos_of_neg_of_neg h1 h2; omega
    · subst h2; simp
    · have := Int.mul_neg_of_neg_of_pos h1 h2; omega
    · subst h1; simp
    · subst h1; simp
    · subst h1; simp
    · have := Int.mul_neg_of_pos_of_neg h1 h2; omega
    · subst h2; simp
    · have := Int.mul_pos h1 h2; omega
  obtain ⟨L, hL⟩ : ∃ L, L = (words x.natAbs).length := ⟨_, rfl⟩
  obtain ⟨L2, hL2⟩ : ∃ L, L = (words y.natAbs).length := ⟨_, rfl⟩
  rw [← hL] at g2 hn
  rw [← hL2] at g4 hn
  obtain ⟨d, hd⟩ : ∃ d, d = decide (x < 0) := ⟨_, rfl⟩
  obtain ⟨d2, hd2⟩ : ∃ d, d = decide (y < 0) := ⟨_, rfl⟩
  rw [← hd] at g1 hneg
  rw [← hd2] at g3 hneg
  have HNN := Lib.hid hn
  have HZ := Lib.hid hz
  have HG := Lib.hid hneg
  have H2 := Lib.hid h2
  clear hn hW hc hL hd h2 hx hz hneg hW2 hc2 hL2 hd2 hy hl hl2
  go_enter Tryz.func84, Tryz.ntmps84
  go_wp2_with fail
  go_region_held3 (fun w' : World => w'.cell? ⟨bx, 0, none⟩ = some (.bool d) ∧ w'.cell? ⟨bx, 1, none⟩ = some (.slice A L c) ∧ w'.cell? ⟨by', 0, none⟩ = some (.bool d2) ∧ w'.cell? ⟨by', 1, none⟩ = some (.slice A2 L2 c2))
    (first
      | exact ⟨g1, g2, g3, g4⟩
      | exact ⟨cell_keep HB.out hbx g1, cell_keep HB.out hbx g2, cell_keep HB.out hby g3, cell_keep HB.out hby g4⟩
      | exact ⟨cell_keep2 HB.out HG2.out hbx hn1 g1, cell_keep2 HB.out HG2.out hbx hn1 g2, cell_keep2 HB.out HG2.out hby hn2 g3, cell_keep2 HB.out HG2.out hby hn2 g4⟩)
    (first
    | (go_at_call 120; refine HNN.out.mono ?_; rintro e w1 ⟨X, c3, rfl, hc3, hcm3, hW, hb⟩;
       have HP := Lib.hid (put_calls b c3 (x.natAbs * y.natAbs) (x * y) (d != d2) X w1 ((show Two w.drew b from H2.out).grown0 (grown_of_below hb none)) HZ.out HG.out hc3 hcm3 hW);
       have HB := Lib.hid hb;
       clear hW hb)
    | (go_at_call 119; refine HP.out.mono ?_; rintro e w2 ⟨rfl, hI, hg⟩; have HI := Lib.hid hI; have HG2 := Lib.hid hg; clear hI hg))
  go_wp2
  go_ret
  exact ⟨rfl, HI.out, grown_of_drew (grown_trans (grown_of_below HB.out _) HG2.out)⟩
set_option maxHeartbeats 4000000 in
theorem isetw_calls (b c m : Nat) (A : Option Addr) (w : World) (h2 : Two w b) (hc : (words m).length ≤ c) (hl : (words m).length ≤ 1073741824) (h : Ws w w.heap.size A (words m)) :
    Calls Tryz.prog 112 #[.pointer (some ⟨b, 0, none⟩), .slice A (words m).length c] w fun e w' => Put w b (m : Int) e w' := by
  have hcl := clone32_done A c _ w hc hl h
  have HC := Lib.hid hcl
  obtain ⟨L, hL⟩ : ∃ L, L = (words m).length := ⟨_, rfl⟩
  rw [← hL] at hc HC hl ⊢
  have HL := Lib.hid hL
  have H2 := Lib.hid h2
  clear hcl h hL h2
  go_enter Tryz.func112, Tryz.ntmps112
  go_wp2_with fail
  refine HC.out.mono ?_
  rintro e w1 ⟨X, c2, rfl, hc2, hcm2, hW, hb⟩
  rw [← HL.out] at hc2 ⊢
  have ht := trim_calls X c2 w1.heap.size (words m) w1 (by rw [← HL.out]; exact hc2) (by rw [← HL.out]; omega) (words_isW m) hW
  rw [← HL.out, val_words] at ht
  have HT := Lib.hid ht
  clear ht hW
  go_wp2_with fail
  refine HT.out.mono ?_
  rintro e w2 ⟨rfl, hw2, hc3, hw⟩
  obtain rfl := hw.symm
  have hp := put_calls b c2 m m false X w1 (H2.out.grown0 (grown_of_below hb none)) (by simp) (by simp) hc3 hcm2 hw2
  have HP := Lib.hid hp
  rw [← HL.out] at HP ⊢
  clear hp hw2
  go_wp2_with fail
  refine HP.out.mono ?_
  rintro e w2 ⟨rfl, hI, hg⟩
  have HI := Lib.hid hI
  clear hI
  go_wp2
  go_ret
  exact ⟨rfl, HI.out, grown_trans (grown_of_below hb _) hg⟩
set_option maxHeartbeats 4000000 in
theorem iseti_calls (b u : Nat) (w : World) (h2 : Two w b) (hu : u < 9223372036854775808) :
    Calls Tryz.prog 158 #[.pointer (some ⟨b, 0, none⟩), .int .i64 u] w fun e w' => Put w b (u : Int) e w' := by
  have H2 := Lib.hid h2
  have hn : ¬ ((u : Int) < 0) := by omega
  clear h2
  go_enter Tryz.func158, Tryz.ntmps158
  go_wp2_with fail
  refine (nsmall_calls u (by omega) w).mono ?_
  rintro e w1 ⟨X, c, rfl, hc, hcm, hW, hb⟩
  have hg0 := grown_of_below hb none
  have hp := put_calls b c u u false X w1 (H2.out.grown0 hg0) (by simp) (by simp) hc hcm hW
  have HP := Lib.hid hp
  clear hp hW hg0
  go_wp2_with fail
  refine HP.out.mono ?_
  rintro e w2 ⟨rfl, hI, hg⟩
  have HI := Lib.hid hI
  clear hI
  go_wp2
  go_ret
  exact ⟨rfl, HI.out, grown_trans (grown_of_below hb _) hg⟩
/-- a new number -/
theorem two_new (w : World) (t : TypeId) : Two (w.alloc (.cells #[.bool false, .slice none 0 0] t)) w.heap.size := ⟨_, _, _, _, t, heap_alloc_new w _⟩
theorem ir_new (w : World) (t : TypeId) : IR (w.alloc (.cells #[.bool false, .slice none 0 0] t)) w.heap.size 0 := ⟨none, 0, t, heap_alloc_new w _, Nat.le_refl _, by decide, Ws.nil⟩
/-- what a call leaves that makes a number -/
def New (w : World) (z : Int) (e : Ending) (w' : World) : Prop := ∃ b, e = .returned (.pointer (some ⟨b, 0, none⟩)) ∧ w.heap.size ≤ b ∧ IR w' b z ∧ Below w.heap.size w w'
theorem New.of_put {w w' : World} {t : TypeId} {z : Int} {e : Ending} {o : Obj} (h : Put (w.alloc o) w.heap.size z e w') : New w z e w' :=
  ⟨_, h.1, Nat.le_refl _, h.2.1, ((Below.refl _ w).alloc (Nat.le_refl _) _).trans (below_of_grown h.2.2 (Nat.le_refl _) (by simp))⟩
set_option maxHeartbeats 4000000 in
theorem newint_calls (u : Nat) (w : World) (hu : u < 9223372036854775808) :
    Calls Tryz.prog 140 #[.int .i64 u] w fun e w' => New w (u : Int) e w' := by
  go_enter Tryz.func140, Tryz.ntmps140
  go_wp2_with fail
  refine (iseti_calls _ u _ (two_new w _) hu).mono ?_
  rintro e w2 h
  obtain ⟨b, rfl, hb, hI, hB⟩ := New.of_put (t := 0) h
  have HI := Lib.hid hI
  clear h hI
  go_wp2
  go_ret
  exact ⟨b, rfl, hb, HI.out, hB⟩
def cmpZ (x y : Int) : Int := if x < y then -1 else if x = y then 0 else 1
set_option maxHeartbeats 4000000 in
theorem icmp_calls (bx by' : Nat) (x y : Int) (w : World) (hx : IR w bx x) (hy : IR w by' y) (hl : (words x.natAbs).length ≤ 1073741824) (hl2 : (words y.natAbs).length ≤ 1073741824) :
    Calls Tryz.prog 111 #[.pointer (some ⟨bx, 0, none⟩), .pointer (some ⟨by', 0, none⟩)] w fun e w' => e = .returned (.int .i64 (cmpZ x y)) ∧ ∃ q, w' = w.drewN q := by
  obtain ⟨A, c, g1, g2, hc, hcm, hW⟩ := hx.open
  obtain ⟨A2, c2, g3, g4, hc2, hcm2, hW2⟩ := hy.open
  have hn := fun q => ncmp_calls A A2 c c2 (w.drewN q).heap.size (w.drewN q).heap.size x.natAbs y.natAbs (w.drewN q) (by omega) (by omega) hW hW2
  have hn' := fun q => ncmp_calls A2 A c2 c (w.drewN q).heap.size (w.drewN q).heap.size y.natAbs x.natAbs (w.drewN q) (by omega) (by omega) hW2 hW
  obtain ⟨L, hL⟩ : ∃ L, L = (words x.natAbs).length := ⟨_, rfl⟩
  obtain ⟨L2, hL2⟩ : ∃ L, L = (words y.natAbs).length := ⟨_, rfl⟩
  simp only [← hL, ← hL2] at g2 g4 hn hn'
  by_cases hx0 : x < 0
  · rw [decide_eq_true hx0] at g1
    by_cases hy0 : y < 0
    · rw [decide_eq_true hy0] at g3
      have hci : cmpI y.natAbs x.natAbs = cmpZ x y := by
        unfold cmpI cmpZ
        split
        · rw [if_pos (by omega)]
        · split
          · rw [if_neg (by omega), if_pos (by omega)]
          · rw [if_neg (by omega), if_neg (by omega)]
      simp only [hci] at hn'
      have HNM := Lib.hid hn'
      obtain ⟨z, hz⟩ : ∃ z, z = cmpZ x y := ⟨_, rfl⟩
      rw [← hz] at HNM ⊢
      clear hn hn' hx hy hc hc2 hL hL2 hW hW2 hci hz hx0 hy0
      go_enter Tryz.func111, Tryz.ntmps111
      go_wp2
      go_quiet (fail)
      go_wp2
      go_quiet ((go_at_call 136; refine (HNM.out _).mono ?_; rintro e w2 ⟨rfl, q', rfl⟩; exact ⟨rfl, _, by rw [World.drewN_drewN, Nat.add_assoc]⟩))
      go_wp2
      go_ret
      exact ⟨rfl, _, by first | rfl | rw [World.drewN_drewN]⟩
    · rw [decide_eq_false hy0] at g3
      have hci : cmpZ x y = -1 := by
        unfold cmpZ
        rw [if_pos (by omega)]
      rw [hci]
      clear hn hn' hx hy hc hc2 hL hL2 hW hW2 hci hx0 hy0
      go_enter Tryz.func111, Tryz.ntmps111
      go_wp2
      go_quiet (fail)
      go_wp2
      go_ret
      exact ⟨rfl, _, rfl⟩
  · rw [decide_eq_false hx0] at g1
    by_cases hy0 : y < 0
    · rw [decide_eq_true hy0] at g3
      have hci : cmpZ x y = 1 := by
        unfold cmpZ
        rw [if_neg (by omega), if_neg (by omega)]
      rw [hci]
      clear hn hn' hx hy hc hc2 hL hL2 hW hW2 hci hx0 hy0
      go_enter Tryz.func111, Tryz.ntmps111
      go_wp2
      go_quiet (fail)
      go_wp2
      go_ret
      exact ⟨rfl, _, rfl⟩
    · rw [decide_eq_false hy0] at g3
      have hci : cmpI x.natAbs y.natAbs = cmpZ x y := by
        unfold cmpI cmpZ
        split
        · rw [if_pos (by omega)]
        · split
          · rw [if_neg (by omega), if_pos (by omega)]
          · rw [if_neg (by omega), if_neg (by omega)]
      simp only [hci] at hn
      have HNN := Lib.hid hn
      obtain ⟨z, hz⟩ : ∃ z, z = cmpZ x y := ⟨_, rfl⟩
      rw [← hz] at HNN ⊢
      clear hn hn' hx hy hc hc2 hL hL2 hW hW2 hci hz hx0 hy0
      go_enter Tryz.func111, Tryz.ntmps111
      go_wp2
      go_quiet (fail)
      go_wp2
      go_quiet ((go_at_call 136; refine (HNN.out _).mono ?_; rintro e w2 ⟨rfl, q', rfl⟩; exact ⟨rfl, _, by rw [World.drewN_drewN, Nat.add_assoc]⟩))
      go_wp2
      go_ret
      exact ⟨rfl, _, by first | rfl | rw [World.drewN_drewN]⟩
end Go.Proofs.YtjbdadhggejoiaaGreatDoor

namespace Go.Proofs.YtjbdadhggejoiaaGreatDoor
open Go.RowKit
set_option maxRecDepth 100000

set_option maxHeartbeats 4000000 in
theorem isum_calls (b bx c2 m : Nat) (neg : Bool) (A2 : Option Addr) (x s : Int) (w : World) (h2 : Two w b) (hx : IR w bx x) (hl : (words x.natAbs).length ≤ 536870912) (hl2 : (words m).length ≤ 536870912) (hc2 : (words m).length ≤ c2) (hW2 : Ws w w.heap.size A2 (words m)) (hs : s = x + (if neg then -(m : Int) else m)) :
    Calls Tryz.prog 122 #[.pointer (some ⟨b, 0, none⟩), .pointer (some ⟨bx, 0, none⟩), .bool neg, .slice A2 (words m).length c2] w fun e w' => Put w b s e w' := by
  have hbx := hx.lt
  obtain ⟨A, c, g1, g2, hc, hcm, hW⟩ := hx.open
  obtain ⟨L, hL⟩ : ∃ L, L = (words x.natAbs).length := ⟨_, rfl⟩
  obtain ⟨L2, hL2⟩ : ∃ L, L = (words m).length := ⟨_, rfl⟩
  have H2 := Lib.hid h2
  by_cases hd : decide (x < 0) = neg
  · rw [hd] at g1
    have hn := nadd_calls A A2 c c2 x.natAbs m w hc hc2 (by omega) (by omega) hW hW2
    have hz : x.natAbs + m = s.natAbs := by
      rw [hs]
      cases neg
      · have := of_decide_eq_false hd
        simp; omega
      · have := of_decide_eq_true hd
        simp; omega
    have hg : decide (s < 0) = (neg && decide (0 < x.natAbs + m)) := by
      rw [hs]
      cases neg
      · have := of_decide_eq_false hd
        simp; omega
      · have := of_decide_eq_true hd
        simp; omega
    rw [← hL] at hn g2
    rw [← hL2] at hn ⊢
    have HNN := Lib.hid hn
    have HZ := Lib.hid hz
    have HG := Lib.hid hg
    clear hn hz hg hd hs hW hW2 hL hL2 hc hc2 hx hl hl2 h2
    have hbb : (neg == neg) = true := beq_self_eq_true neg
    go_enter Tryz.func122, Tryz.ntmps122
    go_wp2_with fail
    refine HNN.out.mono ?_
    rintro e w1 ⟨X, c3, rfl, hc3, hcm3, hW, hb⟩
    have HP := Lib.hid (put_calls b c3 (x.natAbs + m) s neg X w1 (H2.out.grown0 (grown_of_below hb none)) HZ.out HG.out hc3 hcm3 hW)
    clear hW
    go_wp2_with fail
    refine HP.out.mono ?_
    rintro e w2 ⟨rfl, hI, hg⟩
    have HI := Lib.hid hI
    clear hI
    go_wp2
    go_ret
    exact ⟨rfl, HI.out, grown_trans (grown_of_below hb _) hg⟩
  · have hc0 := ncmp_calls A A2 c c2 w.heap.size w.heap.size x.natAbs m w (by omega) (by omega) hW hW2
    by_cases hge : m ≤ x.natAbs
    · have hci : ∃ z : Nat, cmpI x.natAbs m = (z : Int) := by
        unfold cmpI
        rw [if_neg (by omega)]
        split
        · exact ⟨0, rfl⟩
        · exact ⟨1, rfl⟩
      obtain ⟨z, hz0⟩ := hci
      rw [hz0] at hc0
      have hn := fun q => nsub_calls A A2 c c2 x.natAbs m (w.drewN q).drew hc hc2 (by omega) hge hW hW2
      have hz : x.natAbs - m = s.natAbs := by
        rw [hs]
        cases neg
        · have : x < 0 := by simpa using hd
          simp; omega
        · have : ¬ x < 0 := by simpa using hd
          simp; omega
      have hg : decide (s < 0) = (decide (x < 0) && decide (0 < x.natAbs - m)) := by
        rw [hs, Bool.eq_iff_iff]
        cases neg
        · have : x < 0 := by simpa using hd
          simp; omega
        · have : ¬ x < 0 := by simpa using hd
          simp; omega
      obtain ⟨d, hdd⟩ : ∃ d, d = decide (x < 0) := ⟨_, rfl⟩
      simp only [← hL] at hn g2 hc0
      simp only [← hL2] at hn hc0 ⊢
      rw [← hdd] at hg g1 hd
      have HNN := Lib.hid hn
      have HZ := Lib.hid hz
      have HG := Lib.hid hg
      have HC := Lib.hid hc0
      have hbb : (d == neg) = false := by rw [beq_eq_false_iff_ne]; exact hd
      clear hn hz hg hd hs hW hW2 hL hL2 hc hc2 hx hl hl2 hc0 hdd hge h2 hz0
      go_enter Tryz.func122, Tryz.ntmps122
      go_wp2_with fail
      refine HC.out.mono ?_
      rintro e w1 ⟨rfl, q, rfl⟩
      go_wp2_with fail
      go_region_with (first
        | (go_at_call 149; refine (HNN.out q).mono ?_; rintro e w1 ⟨X, c3, rfl, hc3, hcm3, hW, hb⟩;
           have HP := Lib.hid (put_calls b c3 (x.natAbs - m) s d X w1 ((show Two (w.drewN q).drew b from H2.out).grown0 (grown_of_below hb none)) HZ.out HG.out hc3 hcm3 hW);
           have HB := Lib.hid hb;
           have g1' := (hb.cell (p := ⟨bx, 0, none⟩) (show bx < w.heap.size from hbx)).trans (show (w.drewN q).drew.cell? ⟨bx, 0, none⟩ = _ from g1);
           clear hW hb)
        | (go_at_call 119; refine HP.out.mono ?_; rintro e w2 ⟨rfl, hI, hg⟩; have HI := Lib.hid hI; clear hI))
      all_goals
        go_wp2
        go_ret
        exact ⟨rfl, HI.out, (grown_trans (b := (w.drewN q).drew) ⟨rfl, rfl, rfl, Nat.le_refl _, fun _ _ _ => rfl⟩ (grown_trans (grown_of_below HB.out _) hg))⟩
    · have hci : cmpI x.natAbs m = -1 := by
        unfold cmpI
        rw [if_pos (by omega)]
      rw [hci] at hc0
      have hn := fun q => nsub_calls A2 A c2 c m x.natAbs (w.drewN q) hc2 hc (by omega) (by omega) hW2 hW
      have hz : m - x.natAbs = s.natAbs := by
        rw [hs]
        cases neg
        · have : x < 0 := by simpa using hd
          simp; omega
        · have : ¬ x < 0 := by simpa using hd
          simp; omega
      have hg : decide (s < 0) = (neg && decide (0 < m - x.natAbs)) := by
        rw [hs, Bool.eq_iff_iff]
        cases neg
        · have : x < 0 := by simpa using hd
          simp; omega
        · have : ¬ x < 0 := by simpa using hd
          simp; omega
      obtain ⟨d, hdd⟩ : ∃ d, d = decide (x < 0) := ⟨_, rfl⟩
      simp only [← hL] at hn g2 hc0
      simp only [← hL2] at hn hc0 ⊢
      rw [← hdd] at g1 hd
      have HNN := Lib.hid hn
      have HZ := Lib.hid hz
      have HG := Lib.hid hg
      have HC := Lib.hid hc0
      have hbb : (d == neg) = false := by rw [beq_eq_false_iff_ne]; exact hd
      clear hn hz hg hd hs hW hW2 hL hL2 hc hc2 hx hl hl2 hc0 hdd hge h2 hci
      go_enter Tryz.func122, Tryz.ntmps122
      go_wp2_with fail
      refine HC.out.mono ?_
      rintro e w1 ⟨rfl, q, rfl⟩
      go_wp2_with fail
      refine (HNN.out q).mono ?_
      rintro e w1 ⟨X, c3, rfl, hc3, hcm3, hW, hb⟩
      have HP := Lib.hid (put_calls b c3 (m - x.natAbs) s neg X w1 ((show Two (w.drewN q) b from H2.out).grown0 (grown_of_below hb none)) HZ.out HG.out hc3 hcm3 hW)
      clear hW
      go_wp2_with fail
      refine HP.out.mono ?_
      rintro e w2 ⟨rfl, hI, hg⟩
      have HI := Lib.hid hI
      clear hI
      go_wp2
      go_ret
      exact ⟨rfl, HI.out, (grown_trans (b := w.drewN q) ⟨rfl, rfl, rfl, Nat.le_refl _, fun _ _ _ => rfl⟩ (grown_trans (grown_of_below hb _) hg))⟩
end Go.Proofs.YtjbdadhggejoiaaGreatDoor
