/- 'big.Int': the methods that set their receiver from one number. -/
import Derived.Test.YtjbdadhggejoiaaGreatDoorM12

namespace Go.Proofs.YtjbdadhggejoiaaGreatDoor
open Go.RowKit
set_option maxRecDepth 100000

theorem grown_of_drew {w w' : World} {r : Option Nat} (h : w.drew.grownBy w' r) : w.grownBy w' r := ⟨h.os, h.tape, h.output, h.size, h.block⟩
theorem Put.of_drew {w w' : World} {b : Nat} {z : Int} {e : Ending} (h : Put w.drew b z e w') : Put w b z e w' := ⟨h.1, h.2.1, grown_of_drew h.2.2⟩
theorem lenPos (x : Int) : (((words x.natAbs).length : Int) == 0) = decide (x = 0) := by
  by_cases h : x = 0
  · subst h; rfl
  · have h1 : x.natAbs ≠ 0 := by omega
    have h2 : (words x.natAbs).length ≠ 0 := fun e => by
      have := val_words x.natAbs
      rw [List.eq_nil_of_length_eq_zero e] at this
      simp only [val] at this
      omega
    rw [decide_eq_false h, beq_eq_false_iff_ne]
    omega

set_option maxHeartbeats 4000000 in
theorem iset_calls (b bx : Nat) (x : Int) (w : World) (h2 : Two w b) (hx : IR w bx x) :
    Calls Tryz.prog 153 #[.pointer (some ⟨b, 0, none⟩), .pointer (some ⟨bx, 0, none⟩)] w fun e w' => Put w b x e w' := by
  obtain ⟨A, c, g1, g2, hc, hcm, hW⟩ := hx.open
  have hp := put_calls b c x.natAbs x (decide (x < 0)) A w.drew h2 rfl (by rw [Bool.eq_iff_iff]; simp; omega) hc hcm hW
  obtain ⟨L, hL⟩ : ∃ L, L = (words x.natAbs).length := ⟨_, rfl⟩
  rw [← hL] at g2 hp
  obtain ⟨d, hd⟩ : ∃ d, d = decide (x < 0) := ⟨_, rfl⟩
  rw [← hd] at g1 hp
  have HP := Lib.hid hp
  clear hp hW hc hL hd h2 hx
  go_enter Tryz.func153, Tryz.ntmps153
  go_wp2_with fail
  go_region_with (refine HP.out.mono ?_; rintro e w2 ⟨rfl, hI, hg⟩; have HI := Lib.hid hI; clear hI)
  all_goals
    go_wp2
    go_ret
    exact ⟨rfl, HI.out, grown_of_drew hg⟩
set_option maxHeartbeats 4000000 in
theorem iabs_calls (b bx : Nat) (x : Int) (w : World) (h2 : Two w b) (hx : IR w bx x) :
    Calls Tryz.prog 105 #[.pointer (some ⟨b, 0, none⟩), .pointer (some ⟨bx, 0, none⟩)] w fun e w' => Put w b (x.natAbs : Int) e w' := by
  obtain ⟨A, c, g1, g2, hc, hcm, hW⟩ := hx.open
  have hp := put_calls b c x.natAbs x.natAbs false A w h2 (by simp) (by simp) hc hcm hW
  obtain ⟨L, hL⟩ : ∃ L, L = (words x.natAbs).length := ⟨_, rfl⟩
  rw [← hL] at g2 hp
  have HP := Lib.hid hp
  clear hp hW hc hL h2 hx
  go_enter Tryz.func105, Tryz.ntmps105
  go_wp2_with fail
  refine HP.out.mono ?_
  rintro e w2 ⟨rfl, hI, hg⟩
  have HI := Lib.hid hI
  clear hI
  go_wp2
  go_ret
  exact ⟨rfl, HI.out, hg⟩
set_option maxHeartbeats 4000000 in
theorem ineg_calls (b bx : Nat) (x : Int) (w : World) (h2 : Two w b) (hx : IR w bx x) :
    Calls Tryz.prog 113 #[.pointer (some ⟨b, 0, none⟩), .pointer (some ⟨bx, 0, none⟩)] w fun e w' => Put w b (-x) e w' := by
  obtain ⟨A, c, g1, g2, hc, hcm, hW⟩ := hx.open
  have hp := put_calls b c x.natAbs (-x) (!decide (x < 0)) A w.drew h2 (by simp) (by rw [Bool.eq_iff_iff]; simp; omega) hc hcm hW
  obtain ⟨L, hL⟩ : ∃ L, L = (words x.natAbs).length := ⟨_, rfl⟩
  rw [← hL] at g2 hp
  obtain ⟨d, hd⟩ : ∃ d, d = decide (x < 0) := ⟨_, rfl⟩
  rw [← hd] at g1 hp
  have HP := Lib.hid hp
  clear hp hW hc hL hd h2 hx
  go_enter Tryz.func113, Tryz.ntmps113
  go_wp2_with fail
  go_region_with (refine HP.out.mono ?_; rintro e w2 ⟨rfl, hI, hg⟩; have HI := Lib.hid hI; clear hI)
  all_goals
    go_wp2
    go_ret
    exact ⟨rfl, HI.out, grown_of_drew hg⟩
set_option maxHeartbeats 4000000 in
theorem isetu_calls (b u : Nat) (w : World) (h2 : Two w b) (hu : u < 18446744073709551616) :
    Calls Tryz.prog 115 #[.pointer (some ⟨b, 0, none⟩), .int .u64 u] w fun e w' => Put w b (u : Int) e w' := by
  have H2 := Lib.hid h2
  clear h2
  go_enter Tryz.func115, Tryz.ntmps115
  go_wp2_with fail
  refine (nsmall_calls u hu w).mono ?_
  rintro e w1 ⟨X, c, rfl, hc, hcm, hW, hb⟩
  have hg0 := grown_of_below hb none
  have hp := put_calls b c u u false X w1 (H2.out.grown0 hg0) (by simp) (by simp) hc hcm hW
  have HP := Lib.hid hp
  clear hp hW hg0
  go_wp2_with fail
  refine HP.out.mono ?_
  rintro e w2 ⟨rfl, hI, hg⟩
  have HI := Lib.hid hI
  clear hI
  go_wp2
  go_ret
  exact ⟨rfl, HI.out, grown_trans (grown_of_below hb _) hg⟩
set_option maxHeartbeats 4000000 in
theorem ilsh_calls (b bx k : Nat) (x : Int) (w : World) (h2 : Two w b) (hx : IR w bx x) (hl : (words x.natAbs).length ≤ 1073741824) (hk : k ≤ 1073741824) :
    Calls Tryz.prog 107 #[.pointer (some ⟨b, 0, none⟩), .pointer (some ⟨bx, 0, none⟩), .int .u64 k] w fun e w' => Put w b (x * 2 ^ k) e w' := by
  have hbx := hx.lt
  obtain ⟨A, c, g1, g2, hc, hcm, hW⟩ := hx.open
  have hn := nshl_calls A c x.natAbs k w.drew hc hl hk hW
  have hz : x.natAbs * 2 ^ k = (x * 2 ^ k).natAbs := by rw [Int.natAbs_mul, Int.natAbs_pow]; rfl
  have hneg : decide (x * 2 ^ k < 0) = (decide (x < 0) && decide (0 < x.natAbs * 2 ^ k)) := by
    have hp : (0 : Int) < 2 ^ k := Int.pow_pos (by decide)
    have hp2 : 0 < 2 ^ k := Nat.two_pow_pos k
    rw [Bool.eq_iff_iff]
    simp only [Bool.and_eq_true, decide_eq_true_eq]
    constructor
    · intro h
      have h1 : x < 0 := by
        refine Int.lt_of_not_ge fun hc => ?_
        have := Int.mul_nonneg hc (Int.le_of_lt hp)
        omega
      exact ⟨h1, Nat.mul_pos (by omega) hp2⟩
    · rintro ⟨h1, _⟩
      exact Int.mul_neg_of_neg_of_pos h1 hp
  obtain ⟨L, hL⟩ : ∃ L, L = (words x.natAbs).length := ⟨_, rfl⟩
  rw [← hL] at g2 hn
  obtain ⟨d, hd⟩ : ∃ d, d = decide (x < 0) := ⟨_, rfl⟩
  rw [← hd] at g1 hneg
  have HNN := Lib.hid hn
  have HZ := Lib.hid hz
  have HG := Lib.hid hneg
  have H2 := Lib.hid h2
  clear hn hW hc hL hd h2 hx hz hneg
  go_enter Tryz.func107, Tryz.ntmps107
  go_wp2_with fail
  go_region_with (first
    | (refine HNN.out.mono ?_; rintro e w1 ⟨X, c2, rfl, hc2, hcm2, hW, hb⟩;
       have HP := Lib.hid (put_calls b c2 (x.natAbs * 2 ^ k) (x * 2 ^ k) d X w1 ((show Two w.drew b from H2.out).grown0 (grown_of_below hb none)) HZ.out HG.out hc2 hcm2 hW);
       have HB := Lib.hid hb;
       have g1' := (hb.cell (p := ⟨bx, 0, none⟩) (show bx < w.heap.size from hbx)).trans (show w.drew.cell? ⟨bx, 0, none⟩ = _ from g1);
       clear hW hb)
    | (refine HP.out.mono ?_; rintro e w2 ⟨rfl, hI, hg⟩; have HI := Lib.hid hI; clear hI))
  all_goals
    go_wp2
    go_ret
    exact ⟨rfl, HI.out, grown_of_drew (grown_trans (grown_of_below HB.out _) hg)⟩
set_option maxHeartbeats 4000000 in
theorem isqrt_calls (b bx r : Nat) (x : Int) (w : World) (h2 : Two w b) (hx : IR w bx x) (hl : (words x.natAbs).length ≤ 16777216) (hr1 : r * r ≤ x.natAbs) (hr2 : x.natAbs < (r + 1) * (r + 1)) :
    Calls Tryz.prog 110 #[.pointer (some ⟨b, 0, none⟩), .pointer (some ⟨bx, 0, none⟩)] w fun e w' => Put w b (r : Int) e w' := by
  obtain ⟨A, c, g1, g2, hc, hcm, hW⟩ := hx.open
  have hn := nsqrt_calls A c x.natAbs r w hc hcm hl hr1 hr2 hW
  obtain ⟨L, hL⟩ : ∃ L, L = (words x.natAbs).length := ⟨_, rfl⟩
  rw [← hL] at g2 hn
  have HNN := Lib.hid hn
  have H2 := Lib.hid h2
  clear hn hW hc hL h2 hx hr1 hr2
  go_enter Tryz.func110, Tryz.ntmps110
  go_wp2_with fail
  refine HNN.out.mono ?_
  rintro e w1 ⟨X, c2, rfl, hc2, hcm2, hW, hb⟩
  have hg0 := grown_of_below hb none
  have hp := put_calls b c2 r r false X w1 (H2.out.grown0 hg0) (by simp) (by simp) hc2 hcm2 hW
  have HP := Lib.hid hp
  clear hp hW hg0
  go_wp2_with fail
  refine HP.out.mono ?_
  rintro e w2 ⟨rfl, hI, hg⟩
  have HI := Lib.hid hI
  clear hI
  go_wp2
  go_ret
  exact ⟨rfl, HI.out, grown_trans (grown_of_below hb _) hg⟩
set_option maxHeartbeats 4000000 in
theorem ibits_calls (bx : Nat) (x : Int) (w : World) (hx : IR w bx x) (hl : (words x.natAbs).length ≤ 1073741824) :
    Calls Tryz.prog 106 #[.pointer (some ⟨bx, 0, none⟩)] w fun e w' => e = .returned (.int .i64 (Go.bitLen x.natAbs)) ∧ w' = w := by
  obtain ⟨A, c, g1, g2, hc, hcm, hW⟩ := hx.open
  have hn := nbits_calls A c x.natAbs w hc hl hW
  obtain ⟨L, hL⟩ : ∃ L, L = (words x.natAbs).length := ⟨_, rfl⟩
  rw [← hL] at g2 hn
  have HNN := Lib.hid hn
  clear hn hW hc hL hx
  go_enter Tryz.func106, Tryz.ntmps106
  go_wp2_with fail
  refine HNN.out.mono ?_
  rintro e w1 ⟨rfl, hw⟩
  obtain rfl := hw.symm
  go_wp2
  go_ret
  exact ⟨rfl, rfl⟩
set_option maxHeartbeats 4000000 in
theorem izeros_calls (bx k o : Nat) (x : Int) (w : World) (hx : IR w bx x) (hl : (words x.natAbs).length ≤ 1073741824) (hn : x.natAbs = 2 ^ k * o) (ho : o % 2 = 1) (hT : Tab w) :
    Calls Tryz.prog 116 #[.pointer (some ⟨bx, 0, none⟩)] w fun e w' => e = .returned (.int .u64 k) ∧ w' = w := by
  obtain ⟨A, c, g1, g2, hc, hcm, hW⟩ := hx.open
  have hn := nzeros_calls A c x.natAbs k o w hc hl hW hn ho hT
  obtain ⟨L, hL⟩ : ∃ L, L = (words x.natAbs).length := ⟨_, rfl⟩
  rw [← hL] at g2 hn
  have HNN := Lib.hid hn
  clear hn hW hc hL hx hT
  go_enter Tryz.func116, Tryz.ntmps116
  go_wp2_with fail
  refine HNN.out.mono ?_
  rintro e w1 ⟨rfl, hw⟩
  obtain rfl := hw.symm
  go_wp2
  go_ret
  exact ⟨rfl, rfl⟩
def sgnI (x : Int) : Int := if x = 0 then 0 else if x < 0 then -1 else 1
set_option maxHeartbeats 4000000 in
theorem isign_calls (bx : Nat) (x : Int) (w : World) (hx : IR w bx x) :
    Calls Tryz.prog 109 #[.pointer (some ⟨bx, 0, none⟩)] w fun e w' => e = .returned (.int .i64 (sgnI x)) ∧ w' = w := by
  obtain ⟨A, c, g1, g2, hc, hcm, hW⟩ := hx.open
  have hlp := lenPos x
  obtain ⟨L, hL⟩ : ∃ L, L = (words x.natAbs).length := ⟨_, rfl⟩
  rw [← hL] at g2 hlp
  clear hW hc hL hx hcm
  by_cases h0 : x = 0
  · rw [decide_eq_true h0] at hlp
    have hs : sgnI x = 0 := by unfold sgnI; rw [if_pos h0]
    rw [hs]
    clear h0 hs
    go_enter Tryz.func109, Tryz.ntmps109
    go_wp2
    go_ret
    exact ⟨rfl, rfl⟩
  · rw [decide_eq_false h0] at hlp
    by_cases h1 : x < 0
    · rw [decide_eq_true h1] at g1
      have hs : sgnI x = -1 := by unfold sgnI; rw [if_neg h0, if_pos h1]
      rw [hs]
      clear h0 hs h1
      go_enter Tryz.func109, Tryz.ntmps109
      go_wp2
      go_ret
      exact ⟨rfl, rfl⟩
    · rw [decide_eq_false h1] at g1
      have hs : sgnI x = 1 := by unfold sgnI; rw [if_neg h0, if_neg h1]
      rw [hs]
      clear h0 hs h1
      go_enter Tryz.func109, Tryz.ntmps109
      go_wp2
      go_ret
      exact ⟨rfl, rfl⟩
set_option maxHeartbeats 4000000 in
theorem iwords_calls (bx : Nat) (x : Int) (w : World) (hx : IR w bx x) (hl : (words x.natAbs).length ≤ 1073741824) :
    Calls Tryz.prog 118 #[.pointer (some ⟨bx, 0, none⟩)] w fun e w' => NDone w x.natAbs e w' := by
  obtain ⟨A, c, g1, g2, hc, hcm, hW⟩ := hx.open
  have hn := clone_done A c _ w hc hl hW
  obtain ⟨L, hL⟩ : ∃ L, L = (words x.natAbs).length := ⟨_, rfl⟩
  rw [← hL] at g2 hn
  have HNN := Lib.hid hn
  have HL := Lib.hid hL
  clear hn hW hc hL hx
  go_enter Tryz.func118, Tryz.ntmps118
  go_wp2_with fail
  refine HNN.out.mono ?_
  rintro e w1 ⟨X, c2, rfl, hc2, hcm2, hW, hb⟩
  have hd : NDone w x.natAbs (.returned (.slice X (words x.natAbs).length c2)) w1 := ⟨X, c2, rfl, hc2, hcm2, hW, hb⟩
  have HD := Lib.hid hd
  clear hd hW
  go_wp2
  go_ret
  exact HD.out
end Go.Proofs.YtjbdadhggejoiaaGreatDoor
