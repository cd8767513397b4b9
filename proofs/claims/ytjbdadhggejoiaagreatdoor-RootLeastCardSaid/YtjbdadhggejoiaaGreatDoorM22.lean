/- 'dyad': magnitude: a whole number times a power of two as a float. -/
import Derived.Test.YtjbdadhggejoiaaGreatDoorM20
import Derived.Test.YtjbdadhggejoiaaGreatDoorM21
import Derived.Deep.DeepCutAuto
import Derived.Deep.CutBlock

namespace Go.Proofs.YtjbdadhggejoiaaGreatDoor
open Go.RowKit
set_option maxRecDepth 100000
attribute [local go_sem] run_frombits run_bits store_f store_c

def mg0 (n : Nat) : Nat := if Go.bitLen n ≤ 53 then n * 2 ^ (53 - Go.bitLen n) else n / 2 ^ (Go.bitLen n - 53)
def mgLow (n : Nat) : Nat := n % 2 ^ (Go.bitLen n - 53)
def mgHalf (n : Nat) (rest : Bool) : Int := if Go.bitLen n ≤ 53 then -1 else if cmpZ (mgLow n) (2 ^ (Go.bitLen n - 54) : Nat) = 0 ∧ rest = true then 1 else cmpZ (mgLow n) (2 ^ (Go.bitLen n - 54) : Nat)
def mgRest (n : Nat) (rest : Bool) : Bool := rest || (decide (53 < Go.bitLen n) && decide (mgLow n ≠ 0))
def mgInc (n : Nat) (rest up near : Bool) : Bool := (up && mgRest n rest) || (near && (decide (0 < mgHalf n rest) || (decide (mgHalf n rest = 0) && decide (mg0 n % 2 = 1))))
def magF (n : Nat) (e : Int) (rest up near : Bool) : Nat := fbits (mg0 n + (mgInc n rest up near).toNat) ((Go.bitLen n : Int) + e - 53)
theorem mg0_bd {n : Nat} (h : n ≠ 0) : 4503599627370496 ≤ mg0 n ∧ mg0 n < 9007199254740992 := by
  obtain ⟨h1, h2⟩ := bitLen_spec n
  have h3 := h2 h
  have hp := bl_pos h
  unfold mg0
  split
  · rename_i hb
    constructor
    · have : 2 ^ (Go.bitLen n - 1) * 2 ^ (53 - Go.bitLen n) ≤ n * 2 ^ (53 - Go.bitLen n) := Nat.mul_le_mul_right _ h3
      rw [← Nat.pow_add, show Go.bitLen n - 1 + (53 - Go.bitLen n) = 52 by omega] at this
      exact this
    · have : n * 2 ^ (53 - Go.bitLen n) < 2 ^ Go.bitLen n * 2 ^ (53 - Go.bitLen n) := Nat.mul_lt_mul_of_pos_right h1 (Nat.two_pow_pos _)
      rw [← Nat.pow_add, show Go.bitLen n + (53 - Go.bitLen n) = 53 by omega] at this
      exact this
  · rename_i hb
    constructor
    · rw [Nat.le_div_iff_mul_le (Nat.two_pow_pos _)]
      refine Nat.le_trans ?_ h3
      rw [show (4503599627370496 : Nat) = 2 ^ 52 by decide, ← Nat.pow_add]
      exact Nat.pow_le_pow_right (by decide) (by omega)
    · rw [Nat.div_lt_iff_lt_mul (Nat.two_pow_pos _)]
      refine Nat.lt_of_lt_of_le h1 ?_
      rw [show (9007199254740992 : Nat) = 2 ^ 53 by decide, ← Nat.pow_add]
      exact Nat.pow_le_pow_right (by decide) (by omega)

theorem bl53 {m : Nat} (h1 : 4503599627370496 ≤ m) (h2 : m < 9007199254740992) : Go.bitLen m = 53 := by
  obtain ⟨h3, h4⟩ := bitLen_spec m
  have h5 := h4 (by omega)
  have h6 : 52 < Go.bitLen m := by
    rcases Nat.lt_or_ge 52 (Go.bitLen m) with h | h
    · exact h
    · have := Nat.pow_le_pow_right (show 0 < 2 by decide) h
      omega
  have h7 : Go.bitLen m - 1 < 53 := (Nat.pow_lt_pow_iff_right (a := 2) (by decide)).1 (Nat.lt_of_le_of_lt h5 h2)
  omega

theorem bl54 : Go.bitLen 9007199254740992 = 54 := by
  obtain ⟨h3, h4⟩ := bitLen_spec 9007199254740992
  have h5 := h4 (by omega)
  have h6 : 53 < Go.bitLen 9007199254740992 := (Nat.pow_lt_pow_iff_right (a := 2) (by decide)).1 (show 2 ^ 53 < _ from Nat.lt_of_le_of_lt (by decide) h3)
  have h7 : Go.bitLen 9007199254740992 - 1 < 54 := (Nat.pow_lt_pow_iff_right (a := 2) (by decide)).1 (Nat.lt_of_le_of_lt h5 (by decide))
  omega
theorem fbits_up {p : Int} (h : -1074 ≤ p) : fbits 9007199254740992 p = fbits 4503599627370496 (p + 1) := by
  unfold fbits
  omega

set_option maxHeartbeats 4000000 in
theorem dmag_calls (bn n : Nat) (e : Int) (rest up near : Bool) (w : World) (hI : IR w bn (n : Int)) (hn : n ≠ 0) (hl : (words n).length ≤ 8192) (h1 : -1074 ≤ (Go.bitLen n : Int) + e - 53) (h2 : (Go.bitLen n : Int) + e - 53 ≤ 970) :
    Calls Tryz.prog 114 #[.pointer (some ⟨bn, 0, none⟩), .int .i64 e, .int .i64 ((Go.bitLen n : Int) + e), .bool rest, .bool up, .bool near] w fun en w' => en = .returned (.float .f64 (magF n e rest up near)) ∧ Below w.heap.size w w' := by
  have hbl : Go.bitLen n ≤ 262144 := by
    have h1 := val_lt (words_isW n)
    rw [val_words] at h1
    have h2 := (bitLen_spec n).2 hn
    have h3 : 2 ^ (Go.bitLen n - 1) < 2 ^ (32 * (words n).length) := by rw [Nat.pow_mul]; exact Nat.lt_of_le_of_lt h2 h1
    have h4 := (Nat.pow_lt_pow_iff_right (by decide)).1 h3
    omega
  have hmF : magF n e rest up near = fbits (mg0 n + (mgInc n rest up near).toNat) ((Go.bitLen n : Int) + e - 53) := rfl
  obtain ⟨F, hF⟩ : ∃ F, F = magF n e rest up near := ⟨_, rfl⟩
  rw [← hF] at hmF ⊢
  obtain ⟨m0, hm0⟩ : ∃ m0, m0 = mg0 n := ⟨_, rfl⟩
  obtain ⟨inc, hinc⟩ : ∃ inc, inc = mgInc n rest up near := ⟨_, rfl⟩
  have hbd := mg0_bd hn
  rw [← hm0, ← hinc] at hmF
  rw [← hm0] at hbd
  have HI := Lib.hid hI
  have HF := Lib.hid hmF
  have HM := Lib.hid hm0
  have HC := Lib.hid hinc
  obtain ⟨bl, hb⟩ : ∃ bl, bl = Go.bitLen n := ⟨_, rfl⟩
  rw [← hb] at h1 h2 hbl HF ⊢
  obtain ⟨last, hlast⟩ : ∃ last, last = (bl : Int) + e - 53 := ⟨_, rfl⟩
  rw [← hlast] at h1 h2 HF
  have HL := Lib.hid hlast
  have HBl := Lib.hid hb
  have hmax : max ((bl : Int) + e - 53) (-1074) = last := by omega
  have t1 : ¬ (1024 < (bl : Int) + e) := by omega
  have t2 : ¬ ((bl : Int) + e < -1075) := by omega
  have hke : last - e = (bl : Int) - 53 := by omega
  clear hI hmF hm0 hinc hb hlast hF
  go_enter Tryz.func114, Tryz.ntmps114
  obtain ⟨RR, hRR⟩ : ∃ RR, RR = mgRest n rest := ⟨_, rfl⟩
  obtain ⟨HH, hHH⟩ : ∃ HH, HH = mgHalf n rest := ⟨_, rfl⟩
  have HRR := Lib.hid hRR
  have HHH := Lib.hid hHH
  clear hRR hHH
  go_upto_block 0 with fail
  go_cut [3, 14, 16, 32] (fun v3 v14 v16 v32 wx => v3 = .bool RR ∧ v16 = .int .i64 HH ∧ Hid (IR wx w.heap.size (m0 : Int)) ∧ Hid (Below w.heap.size w wx))
  case first =>
    by_cases hb : bl ≤ 53
    · obtain ⟨k1, hk1⟩ : ∃ k1 : Nat, k1 = 53 - bl := ⟨_, rfl⟩
      have hk1e : (53 : Int) - (bl : Int) = (k1 : Int) := by omega
      have hk1e2 : -((bl : Int) - 53) = (k1 : Int) := by omega
      have hmm : Hid ((n : Int) * 2 ^ k1 = (m0 : Int)) := by
        show _ = _
        rw [HM.out]
        unfold mg0
        rw [← HBl.out, if_pos hb, ← hk1, Int.natCast_mul, Int.natCast_pow]
        rfl
      have hR : RR = rest := by
        rw [HRR.out]; unfold mgRest
        rw [← HBl.out, decide_eq_false (by omega)]; simp
      have hH : HH = -1 := by
        rw [HHH.out]; unfold mgHalf
        rw [← HBl.out, if_pos hb]
      clear hk1
      go_wp2_with fail
      refine (ilsh_calls w.heap.size bn k1 (n : Int) _ (two_new w _) (HI.out.alloc _) (by rw [Int.natAbs_natCast]; omega) (by omega)).mono ?_
      rintro e1 w2 ⟨rfl, hI2, hg2⟩
      rw [hmm.out] at hI2
      have HI2 := Lib.hid hI2
      have HB2 : Hid (Below w.heap.size w w2) := ((Below.refl _ _).alloc (Nat.le_refl _) _).trans (below_of_grown hg2 (Nat.le_refl _) (by simp))
      clear hI2 hg2
      go_wp2
      go_meet
      exact ⟨by rw [hR], by rw [hH], HI2, HB2⟩
    · obtain ⟨k, hk⟩ : ∃ k : Nat, k = bl - 53 := ⟨_, rfl⟩
      have hke2 : (bl : Int) - 53 = (k : Int) := by omega
      have hkp : 0 < k := by omega
      obtain ⟨k1, hk1⟩ : ∃ k1 : Nat, k1 = k - 1 := ⟨_, rfl⟩
      have hk1e : (k : Int) - 1 = (k1 : Int) := by omega
      have hm0 : m0 = n / 2 ^ k := by
        rw [HM.out]; unfold mg0
        rw [← HBl.out, if_neg hb, ← hk]
      have hlow : mgLow n = n % 2 ^ k := by unfold mgLow; rw [← HBl.out, ← hk]
      obtain ⟨low, hlw⟩ : ∃ low, low = n % 2 ^ k := ⟨_, rfl⟩
      have hsub : Hid ((n : Int) - (m0 : Int) * 2 ^ k = (low : Int)) := by
        show _ = _
        rw [hm0, hlw]
        have e1 : (((n / 2 ^ k : Nat) : Int)) * 2 ^ k = ((n / 2 ^ k * 2 ^ k : Nat) : Int) := by rw [Int.natCast_mul, Int.natCast_pow]; rfl
        rw [e1]
        have := Nat.div_add_mod n (2 ^ k)
        rw [Nat.mul_comm] at this
        omega
      have hone : Hid ((1 : Int) * 2 ^ k1 = ((2 ^ k1 : Nat) : Int)) := by
        show _ = _
        rw [Int.one_mul, Int.natCast_pow]
        rfl
      obtain ⟨P, hP⟩ : ∃ P : Nat, P = 2 ^ k1 := ⟨_, rfl⟩
      rw [← hP] at hone
      have hlowlt : low < 2 ^ k := by rw [hlw]; exact Nat.mod_lt _ (Nat.two_pow_pos k)
      have hlen1 : (words low).length ≤ 8192 := Nat.le_trans (words_len_le (by rw [hlw]; exact Nat.mod_le _ _)) hl
      have hlen2 : (words P).length ≤ 8192 := by
        refine Nat.le_trans (words_len_le (m := n) ?_) hl
        rw [hP]
        refine Nat.le_trans (Nat.pow_le_pow_right (by decide) (by omega : k1 ≤ bl - 1)) ?_
        have := (bitLen_spec n).2 hn
        rw [← HBl.out] at this
        exact this
      have hlen3 : (words m0).length ≤ 8192 := Nat.le_trans (words_len_lt (k := 2) (by omega)) (by decide)
      have hlen4 : (words ((m0 : Int) * 2 ^ k).natAbs).length ≤ 8192 := by
        rw [abs_mul2, Int.natAbs_natCast]
        refine Nat.le_trans (words_len_le ?_) hl
        rw [hm0]
        exact Nat.div_mul_le_self _ _
      have hc1 : -1 ≤ cmpZ (low : Int) (P : Int) ∧ cmpZ (low : Int) (P : Int) ≤ 1 := by unfold cmpZ; split; omega; split <;> omega
      obtain ⟨hf, hhf⟩ : ∃ hf, hf = cmpZ (low : Int) (P : Int) := ⟨_, rfl⟩
      have hR : Hid (RR = (rest || decide (low ≠ 0))) := by
        show _ = _
        rw [HRR.out]; unfold mgRest
        rw [← HBl.out, decide_eq_true (by omega : 53 < bl), hlow, ← hlw]; simp
      have hH : Hid (HH = if hf = 0 ∧ rest = true then 1 else hf) := by
        show _ = _
        rw [HHH.out]; unfold mgHalf
        rw [← HBl.out, if_neg hb, hlow, ← hlw, show bl - 54 = k1 by omega, ← hP, ← hhf]
      have hsl : (sgnI (low : Int) != 0) = decide (low ≠ 0) := by
        unfold sgnI
        by_cases h : low = 0
        · rw [if_pos (by omega), decide_eq_false (by simpa using h)]; rfl
        · rw [if_neg (by omega), decide_eq_true h]; split <;> rfl
      have HHf := Lib.hid hhf
      have HSl := Lib.hid hsl
      have HM0 := Lib.hid hm0
      rw [← hhf] at hc1
      have hkbb : k ≤ 262144 := by omega
      clear hk1 hlow hlw hP hlowlt hhf hsl hm0 hk
      go_wp2_with fail
      refine (irsh_calls w.heap.size bn k n _ (two_new w _) (HI.out.alloc _) (by omega) (by omega)).mono ?_
      rintro e1 w2 ⟨rfl, hI2, hg2⟩
      rw [← HM0.out] at hI2
      have HI2 := Lib.hid hI2
      have hbn := HI.out.lt
      have HN2 := Lib.hid ((HI.out.alloc _).grown hg2 (by omega) (two_new w _))
      have HB2 : Hid (Below w.heap.size w w2) := ((Below.refl _ _).alloc (Nat.le_refl _) _).trans (below_of_grown hg2 (Nat.le_refl _) (by simp))
      have hs2 := hI2.lt
      clear hI2 hg2
      go_wp2_with fail
      refine (ilsh_calls (w2.heap.size + 1) w.heap.size k (m0 : Int) _ (two_new' _ (by simp)) ((HI2.out.alloc _).alloc _) (by rw [Int.natAbs_natCast]; omega) (by omega)).mono ?_
      rintro e1 w3 ⟨rfl, hI3, hg3⟩
      have t3 := two_new' (w := w2.alloc (.cells #[.bool false, .slice none 0 0] 106)) (b := w2.heap.size + 1) 106 (by simp)
      have HL3 := Lib.hid hI3
      have HN3 := Lib.hid (((HN2.out.alloc _).alloc _).grown hg3 (by have := HN2.out.lt; omega) t3)
      have HM3 := Lib.hid (((HI2.out.alloc _).alloc _).grown hg3 (by omega) t3)
      have HT3 : Hid (Two w3 w2.heap.size) := ((two_new w2 106).grown0 (grown_alloc _ _ none)).grown hg3 (by omega)
      have HB3 : Hid (Below w.heap.size w w3) := ((HB2.out.alloc (by omega) _).alloc (by simp; omega) _).trans (below_of_grown hg3 (by omega) (by simp))
      have hs3 := hI3.lt
      clear hI3 hg3 t3
      go_wp2_with fail
      refine (isub_calls w2.heap.size bn (w2.heap.size + 1) (n : Int) ((m0 : Int) * 2 ^ k) w3 HT3.out HN3.out HL3.out (by rw [Int.natAbs_natCast]; omega) (by omega)).mono ?_
      rintro e1 w4 ⟨rfl, hI4, hg4⟩
      rw [hsub.out] at hI4
      have HS4 := Lib.hid hI4
      have HM4 := Lib.hid (HM3.out.grown hg4 (by omega) HT3.out)
      have HB4 : Hid (Below w.heap.size w w4) := HB3.out.trans (below_of_grown hg4 (by omega) (by omega))
      have hs4 : w3.heap.size ≤ w4.heap.size := hg4.size
      clear hI4 hg4
      go_wp2_with fail
      refine (newint_calls 1 _ (by decide)).mono ?_
      rintro e1 w5 ⟨b5, rfl, hb5, hI5, hB5⟩
      have HO5 := Lib.hid hI5
      have hg5 := grown_of_below hB5 none
      have HT5 : Hid (Two w5 w4.heap.size) := (two_new w4 106).grown0 hg5
      have HS5 := Lib.hid ((HS4.out.alloc _).grown0 hg5)
      have HM5 := Lib.hid ((HM4.out.alloc _).grown0 hg5)
      have HB5 : Hid (Below w.heap.size w w5) := (HB4.out.alloc (by omega) _).trans (hB5.mono (by simp; omega))
      have hs5 : w4.heap.size + 1 ≤ w5.heap.size := by have := hB5.size; simpa using this
      simp only [World.size_alloc] at hb5
      clear hI5 hg5 hB5
      go_wp2_with fail
      refine (ilsh_calls w4.heap.size b5 k1 (1 : Int) w5 HT5.out HO5.out (by decide) (by omega)).mono ?_
      rintro e1 w6 ⟨rfl, hI6, hg6⟩
      rw [hone.out] at hI6
      have HP6 := Lib.hid hI6
      have HS6 := Lib.hid (HS5.out.grown hg6 (by omega) HT5.out)
      have HM6 := Lib.hid (HM5.out.grown hg6 (by omega) HT5.out)
      have HB6 : Hid (Below w.heap.size w w6) := HB5.out.trans (below_of_grown hg6 (by omega) (by omega))
      clear hI6 hg6
      go_wp2_with fail
      refine (icmp_calls w2.heap.size w4.heap.size (low : Int) (P : Int) w6 HS6.out HP6.out (by rw [Int.natAbs_natCast]; omega) (by rw [Int.natAbs_natCast]; omega)).mono ?_
      rintro e1 w7 ⟨rfl, nq, hw7⟩
      obtain rfl := hw7.symm
      rw [← HHf.out]
      have HSg := Lib.hid (isign_calls w2.heap.size (low : Int) (w6.drewN nq) HS6.out)
      obtain ⟨sg0, hsg0⟩ : ∃ s, s = sgnI (low : Int) := ⟨_, rfl⟩
      rw [← hsg0] at HSg HSl
      have hsd := HSl.out
      have HBq : Hid (Below w.heap.size w (w6.drewN nq)) := HB6.out.trans (below_drewN _ _ _)
      have HMq : Hid (IR (w6.drewN nq) w.heap.size (m0 : Int)) := HM6.out
      clear hsg0
      cases rest
      · have hH2 : HH = hf := by rw [hH.out, if_neg (by simp)]
        have hR2 : RR = decide (low ≠ 0) := by rw [hR.out]; simp
        have hA := Lib.hid hH2
        have hB := Lib.hid hR2
        clear hH2 hR2 hsd
        by_cases h0 : hf = 0
        · have hq0 : (hf == 0) = true := by rw [beq_iff_eq]; exact h0
          clear h0
          go_wp2_with fail
          refine HSg.out.mono ?_
          rintro e1 w8 ⟨rfl, hw8⟩
          obtain rfl := hw8.symm
          go_wp2
          go_meet
          exact ⟨by rw [hB.out, ← HSl.out], by rw [hA.out], HMq, HBq⟩
        · have hq0 : (hf == 0) = false := by rw [beq_eq_false_iff_ne]; exact h0
          clear h0
          go_wp2_with fail
          refine HSg.out.mono ?_
          rintro e1 w8 ⟨rfl, hw8⟩
          obtain rfl := hw8.symm
          go_wp2
          go_meet
          exact ⟨by rw [hB.out, ← HSl.out], by rw [hA.out], HMq, HBq⟩
      · have hR2 : RR = true := by rw [hR.out]; simp
        have hB := Lib.hid hR2
        clear hR2 hsd
        by_cases h0 : hf = 0
        · have hH2 : HH = 1 := by rw [hH.out, if_pos ⟨h0, rfl⟩]
          have hA := Lib.hid hH2
          have hq0 : (hf == 0) = true := by rw [beq_iff_eq]; exact h0
          clear hH2 h0
          go_wp2
          go_meet
          exact ⟨by rw [hB.out], by rw [hA.out], HMq, HBq⟩
        · have hH2 : HH = hf := by rw [hH.out, if_neg (fun h => h0 h.1)]
          have hA := Lib.hid hH2
          have hq0 : (hf == 0) = false := by rw [beq_eq_false_iff_ne]; exact h0
          clear hH2 h0
          go_wp2
          go_meet
          exact ⟨by rw [hB.out], by rw [hA.out], HMq, HBq⟩
  case rest =>
    obtain ⟨rfl, rfl, hI5, hB5⟩ := hcut
    have hbit := ibit_calls w.heap.size m0 wc hI5.out (Nat.le_trans (words_len_lt (k := 2) (by omega)) (by decide))
    obtain ⟨b2, hb2⟩ : ∃ b2, b2 = m0 % 2 := ⟨_, rfl⟩
    have hinc : inc = ((up && RR) || (near && (decide (0 < HH) || (decide (HH = 0) && decide (b2 = 1))))) := by
      rw [HC.out, HRR.out, HHH.out, hb2, HM.out]
      rfl
    rw [← hb2] at hbit
    have HBit := Lib.hid hbit
    have HInc := Lib.hid hinc
    clear hbit hinc hb2
    go_upto_region 21 with fail
    go_cut [95] (fun v95 wx => v95 = .bool inc ∧ wc = wx)
    case first =>
      obtain ⟨x, hx⟩ : ∃ x, decide (0 < HH) = x := ⟨_, rfl⟩
      obtain ⟨y, hy⟩ : ∃ y, (HH == 0) = y := ⟨_, rfl⟩
      obtain ⟨z, hz⟩ : ∃ z, ((b2 : Int) == 1) = z := ⟨_, rfl⟩
      have hy' : decide (HH = 0) = y := by rw [← hy]; rfl
      have hz' : decide (b2 = 1) = z := by
        rw [← hz]
        by_cases h : b2 = 1
        · rw [decide_eq_true h, h]; rfl
        · rw [decide_eq_false h]; symm; rw [beq_eq_false_iff_ne]; omega
      have hi : inc = ((up && RR) || (near && (x || (y && z)))) := by rw [HInc.out, hx, hy', hz']
      clear hy' hz'
      have HIn := Lib.hid hi
      clear hi
      cases up <;> cases RR <;> cases near <;> cases x <;> cases y <;> cases z <;> first
        | exact absurd hy (by have := of_decide_eq_true hx; rw [beq_iff_eq]; omega)
        | (go_wp2
           go_meet
           exact ⟨by rw [HIn.out]; rfl, rfl⟩)
        | (go_wp2_with fail
           refine HBit.out.mono ?_
           rintro e1 w8 ⟨rfl, hw8⟩
           obtain rfl := hw8.symm
           go_wp2
           go_meet
           exact ⟨by rw [HIn.out]; rfl, rfl⟩)
        | skip
    case rest =>
      obtain ⟨rfl, rfl⟩ := hcut
      clear HBit HInc HRR HHH hke t1 t2
      cases inc
      · have hi : (m0 + (false).toNat) = m0 := rfl
        have HF2 := HF.out
        rw [hi] at HF2
        have hF2 := Lib.hid HF2
        have HbL := Lib.hid (ibits_calls w.heap.size (m0 : Int) wc hI5.out (Nat.le_trans (words_len_lt (k := 2) (by rw [Int.natAbs_natCast]; omega)) (by decide)))
        rw [Int.natAbs_natCast, bl53 hbd.1 hbd.2] at HbL
        have hq : ¬ (1024 < (53 : Int) + last) := by omega
        have HU := Lib.hid (iuint_calls w.heap.size m0 wc hI5.out (by omega))
        have HLd := Lib.hid (mldexp_calls m0 last wc hbd.1 hbd.2 h1 (by omega))
        rw [← ofNat_f hbd.1 hbd.2, ← hF2.out] at HLd
        have HBB := Lib.hid hB5
        clear HF2 hi hF2 hB5 HF HL
        go_wp2_with fail
        refine HbL.out.mono ?_
        rintro e1 w8 ⟨rfl, hw8⟩
        obtain rfl := hw8.symm
        go_wp2_with fail
        refine HbL.out.mono ?_
        rintro e1 w8 ⟨rfl, hw8⟩
        obtain rfl := hw8.symm
        go_wp2_with fail
        refine HU.out.mono ?_
        rintro e1 w8 ⟨rfl, hw8⟩
        obtain rfl := hw8.symm
        go_wp2_with fail
        refine HLd.out.mono ?_
        rintro e1 w8 ⟨rfl, hw8⟩
        obtain rfl := hw8.symm
        go_wp2
        go_ret
        exact ⟨rfl, HBB.out⟩
      · have hi : (m0 + (true).toNat) = m0 + 1 := rfl
        have HF2 := HF.out
        rw [hi] at HF2
        have hF2 := Lib.hid HF2
        clear HF2 hi HF HL
        have HI5 := Lib.hid hI5
        have HB5 := Lib.hid hB5
        have hwsz := hI5.lt
        clear hI5 hB5
        go_wp2_with fail
        refine (newint_calls 1 _ (by decide)).mono ?_
        rintro e1 w5 ⟨b5, rfl, hb5, hI5, hB6⟩
        have HM6 := Lib.hid (HI5.out.grown0 (grown_of_below hB6 none))
        have hs6 := hB6.size
        have HB6 := Lib.hid (HB5.out.trans (hB6.mono (by omega)))
        have HO6 := Lib.hid hI5
        clear hI5 hB6
        go_wp2_with fail
        refine (iadd_calls w.heap.size w.heap.size b5 (m0 : Int) 1 w5 HM6.out.two HM6.out HO6.out (Nat.le_trans (words_len_lt (k := 2) (by rw [Int.natAbs_natCast]; omega)) (by decide)) (by decide)).mono ?_
        rintro e1 w7 ⟨rfl, hI7, hg7⟩
        rw [show ((m0 : Int) + 1) = ((m0 + 1 : Nat) : Int) from rfl] at hI7
        have HI7 := Lib.hid hI7
        have HB7 : Hid (Below w.heap.size w w7) := HB6.out.trans (below_of_grown hg7 (by omega) (by omega))
        have hs7 := hg7.size
        clear hI7 hg7
        obtain ⟨m1, hm1⟩ : ∃ m1, m1 = m0 + 1 := ⟨_, rfl⟩
        rw [← hm1] at HI7 hF2
        by_cases hov : m1 = 9007199254740992
        · have hlo : last + 1 ≤ 971 := by omega
          obtain ⟨l1, hl1⟩ : ∃ l1, last + 1 = l1 := ⟨_, rfl⟩
          have hwl : IntKind.i64.wrap (last + 1) = last + 1 := wrap_in (by omega) (by omega)
          have hfe : F = fbits 4503599627370496 l1 := by
            rw [hF2.out, hov, ← hl1]
            exact fbits_up (by omega)
          have hF3 := Lib.hid hfe
          have hq : ¬ (1024 < (53 : Int) + l1) := by omega
          have hql : -1074 ≤ l1 ∧ l1 ≤ 971 := by omega
          have hlo1 : -1074 ≤ l1 := by omega
          obtain rfl := hov
          have HbL := Lib.hid (ibits_calls w.heap.size ((9007199254740992 : Nat) : Int) w7 HI7.out (by decide))
          rw [Int.natAbs_natCast, bl54] at HbL
          clear hfe hF2 hm1
          go_wp2_with fail
          refine HbL.out.mono ?_
          rintro e1 w8 ⟨rfl, hw8⟩
          obtain rfl := hw8.symm
          go_wp2_with fail
          refine (irsh_calls w.heap.size w.heap.size 1 9007199254740992 _ HI7.out.two HI7.out (by decide) (by decide)).mono ?_
          rintro e1 w8 ⟨rfl, hI8, hg8⟩
          rw [show (9007199254740992 / 2 ^ 1 : Nat) = 4503599627370496 from rfl] at hI8
          have HbL2 := Lib.hid (ibits_calls w.heap.size ((4503599627370496 : Nat) : Int) w8 hI8 (by decide))
          rw [Int.natAbs_natCast, bl53 (by decide) (by decide)] at HbL2
          have HU2 := Lib.hid (iuint_calls w.heap.size 4503599627370496 w8 hI8 (by decide))
          have HBB : Hid (Below w.heap.size w w8) := HB7.out.trans (below_of_grown hg8 (by omega) (by omega))
          have HLd := Lib.hid (mldexp_calls 4503599627370496 l1 w8 (by decide) (by decide) hql.1 hql.2)
          rw [← ofNat_f (by decide) (by decide)] at HLd
          rw [← hF3.out] at HLd
          clear hI8 hg8
          go_wp2_with fail
          refine HbL2.out.mono ?_
          rintro e1 w9 ⟨rfl, hw9⟩
          obtain rfl := hw9.symm
          go_wp2_with fail
          refine HU2.out.mono ?_
          rintro e1 w9 ⟨rfl, hw9⟩
          obtain rfl := hw9.symm
          go_wp2_with fail
          refine HLd.out.mono ?_
          rintro e1 w9 ⟨rfl, hw9⟩
          obtain rfl := hw9.symm
          go_wp2
          go_ret
          exact ⟨rfl, HBB.out⟩
        · have hb1 : 4503599627370496 ≤ m1 ∧ m1 < 9007199254740992 := by omega
          have hq : ¬ (1024 < (53 : Int) + last) := by omega
          have HbL := Lib.hid (ibits_calls w.heap.size (m1 : Int) w7 HI7.out (Nat.le_trans (words_len_lt (k := 2) (by rw [Int.natAbs_natCast]; omega)) (by decide)))
          rw [Int.natAbs_natCast, bl53 hb1.1 hb1.2] at HbL
          have HU := Lib.hid (iuint_calls w.heap.size m1 w7 HI7.out (by omega))
          have HLd := Lib.hid (mldexp_calls m1 last w7 hb1.1 hb1.2 h1 (by omega))
          rw [← ofNat_f hb1.1 hb1.2, ← hF2.out] at HLd
          have HBB := Lib.hid HB7.out
          clear hF2 hm1 HB7
          go_wp2_with fail
          refine HbL.out.mono ?_
          rintro e1 w8 ⟨rfl, hw8⟩
          obtain rfl := hw8.symm
          go_wp2_with fail
          refine HbL.out.mono ?_
          rintro e1 w8 ⟨rfl, hw8⟩
          obtain rfl := hw8.symm
          go_wp2_with fail
          refine HU.out.mono ?_
          rintro e1 w8 ⟨rfl, hw8⟩
          obtain rfl := hw8.symm
          go_wp2_with fail
          refine HLd.out.mono ?_
          rintro e1 w8 ⟨rfl, hw8⟩
          obtain rfl := hw8.symm
          go_wp2
          go_ret
          exact ⟨rfl, HBB.out⟩
end Go.Proofs.YtjbdadhggejoiaaGreatDoor
