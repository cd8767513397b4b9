/- 'dyad': rooted; known.
   floats: their order is that of their bits; exact products; conversions. -/
import Derived.Test.YtjbdadhggejoiaaGreatDoorM19
import Derived.Deep.DeepCutAuto
import Derived.Deep.CutBlock

namespace Go.Proofs.YtjbdadhggejoiaaGreatDoor
open Go.RowKit
set_option maxRecDepth 100000

theorem dknown_calls (mode : Nat) (w : World) (h : 1 ≤ mode ∧ mode ≤ 3) : Calls Tryz.prog 77 #[.int .i64 mode] w fun e w' => e = .returned (.bool true) ∧ w' = w := by
  have h1 : (1 : Int) ≤ (mode : Int) := by omega
  have h2 : (mode : Int) ≤ 3 := by omega
  go_enter Tryz.func77, Tryz.ntmps77
  go_wp2
  go_ret
  exact ⟨rfl, rfl⟩

/-- how far the number is shifted -/
def rk0 (n : Nat) : Nat := 128 - Go.bitLen n
def rk (n : Nat) (e : Int) : Nat := if (e - rk0 n) % 2 = 0 then rk0 n else rk0 n + 1
set_option maxHeartbeats 4000000 in
theorem drooted_calls (bn n r : Nat) (e : Int) (w : World) (hI : IR w bn (n : Int)) (hl : (words n).length ≤ 4096) (he : -200000 ≤ e ∧ e ≤ 200000) (hr1 : r * r ≤ n * 2 ^ rk n e) (hr2 : n * 2 ^ rk n e < (r + 1) * (r + 1)) :
    Calls Tryz.prog 78 #[.pointer (some ⟨bn, 0, none⟩), .int .i64 e, .int .i64 64] w fun en w' => ∃ br, en = .returned (.tuple #[.pointer (some ⟨br, 0, none⟩), .int .i64 ((e - rk n e) / 2), .bool (decide (r * r ≠ n * 2 ^ rk n e))]) ∧ w.heap.size ≤ br ∧ IR w' br (r : Int) ∧ Below w.heap.size w w' := by
  have hb := ibits_calls bn (n : Int) w hI (by rw [Int.natAbs_natCast]; omega)
  rw [Int.natAbs_natCast] at hb
  have hbl : Go.bitLen n ≤ 131072 := by
    by_cases hm : n = 0
    · subst hm; simp [bl_zero]
    · have h1 := val_lt (words_isW n)
      rw [val_words] at h1
      have h2 := (bitLen_spec n).2 hm
      have h3 : 2 ^ (Go.bitLen n - 1) < 2 ^ (32 * (words n).length) := by rw [Nat.pow_mul]; exact Nat.lt_of_le_of_lt h2 h1
      have h4 := (Nat.pow_lt_pow_iff_right (by decide)).1 h3
      omega
  have hk0 : rk0 n = 128 - Go.bitLen n := rfl
  have hk : rk n e = if (e - rk0 n) % 2 = 0 then rk0 n else rk0 n + 1 := rfl
  obtain ⟨bl, hbe⟩ : ∃ bl, bl = Go.bitLen n := ⟨_, rfl⟩
  obtain ⟨k0, hk0e⟩ : ∃ k0, k0 = rk0 n := ⟨_, rfl⟩
  obtain ⟨k, hke⟩ : ∃ k, k = rk n e := ⟨_, rfl⟩
  rw [← hbe, ← hk0e] at hk0
  rw [← hke, ← hk0e] at hk
  rw [← hbe] at hb hbl
  rw [← hke] at hr1 hr2 ⊢
  have hmax : max (128 - (bl : Int)) 0 = (k0 : Int) := by omega
  have HB := Lib.hid hb
  have HI := Lib.hid hI
  have HK := Lib.hid hk
  clear hb hI hbe hk0e hke hk hk0
  obtain ⟨q, hq⟩ : ∃ q, q = (e - (k : Int)) / 2 := ⟨_, rfl⟩
  rw [← hq]
  have HQ := Lib.hid hq
  clear hq
  go_enter Tryz.func78, Tryz.ntmps78
  go_wp2_with fail
  refine HB.out.mono ?_
  rintro e1 w1 ⟨rfl, hw1⟩
  obtain rfl := hw1.symm
  have hev : (e - (k : Int)) % 2 = 0 ∧ k ≤ k0 + 1 := by
    have := HK.out
    rw [this]
    split <;> omega
  have hdv : (e - (k : Int)).tdiv 2 = (e - (k : Int)) / 2 := by
    obtain ⟨c, hc⟩ : ∃ c, e - (k : Int) = 2 * c := ⟨(e - (k : Int)) / 2, by omega⟩
    rw [hc, Int.mul_tdiv_cancel_left _ (by decide), Int.mul_ediv_cancel_left _ (by decide)]
  have hk0b : k0 ≤ 128 := by omega
  go_upto_if 22 with fail
  go_cut [9] (fun v9 wx => v9 = .int .i64 k ∧ w = wx)
  case first =>
    by_cases hz : (e - (k0 : Int)) % 2 = 0
    · have hkk : k = k0 := by have := HK.out; rw [if_pos hz] at this; exact this
      have hq : ((e - (k0 : Int)).tmod 2 != 0) = false := by
        have : (e - (k0 : Int)).tmod 2 = 0 := Int.tmod_eq_zero_of_dvd (by omega)
        rw [this]; rfl
      clear hz
      go_wp2
      go_meet
      exact ⟨by rw [hkk], rfl⟩
    · have hkk : k = k0 + 1 := by have := HK.out; rw [if_neg hz] at this; exact this
      have hq : ((e - (k0 : Int)).tmod 2 != 0) = true := by
        rw [bne_iff_ne]
        intro h
        have := Int.dvd_of_tmod_eq_zero h
        omega
      clear hz
      go_wp2
      go_meet
      exact ⟨by rw [hkk]; go_num, rfl⟩
  case rest =>
    obtain ⟨rfl, rfl⟩ := hcut
    obtain ⟨hev1, hkb⟩ := hev
    have hqb1 : -300000 ≤ q := by have := HQ.out; omega
    have hqb2 : q ≤ 300000 := by have := HQ.out; omega
    rw [← HQ.out] at hdv
    have hX : ((n : Int) * 2 ^ k).natAbs = n * 2 ^ k := by rw [abs_mul2]; rfl
    have hXl : (words (n * 2 ^ k)).length ≤ 8192 := by
      have := words_len_mul (n := n) (k := k)
      omega
    have hrl : (words r).length ≤ 8192 := by
      refine Nat.le_trans (words_len_le ?_) hXl
      rcases Nat.eq_zero_or_pos r with h | h
      · omega
      · exact Nat.le_trans (Nat.le_mul_of_pos_left r h) hr1
    have hcmp : (cmpZ ((r : Int) * (r : Int)) ((n : Int) * 2 ^ k) != 0) = decide (r * r ≠ n * 2 ^ k) := by
      have e1 : (r : Int) * (r : Int) = ((r * r : Nat) : Int) := by simp
      have e2 : (n : Int) * 2 ^ k = ((n * 2 ^ k : Nat) : Int) := by rw [Int.natCast_mul, Int.natCast_pow]; rfl
      rw [e1, e2]
      unfold cmpZ
      by_cases h : r * r = n * 2 ^ k
      · rw [if_neg (by omega), if_pos (by omega), decide_eq_false (by simpa using h)]; rfl
      · rw [decide_eq_true h]
        split
        · rfl
        · rw [if_neg (by omega)]; rfl
    have HCm := Lib.hid hcmp
    have HH := Lib.hid (⟨hX, hr1, hr2⟩ : _ ∧ r * r ≤ n * 2 ^ k ∧ n * 2 ^ k < (r + 1) * (r + 1))
    clear hX hr1 hr2 hev1 HK hcmp
    go_wp2_with fail
    refine (ilsh_calls w.heap.size bn k (n : Int) _ (two_new w _) (HI.out.alloc _) (by rw [Int.natAbs_natCast]; omega) (by omega)).mono ?_
    rintro e1 w2 ⟨rfl, hI2, hg2⟩
    have HI2 := Lib.hid hI2
    have HB2 : Hid (Below w.heap.size w w2) := ((Below.refl _ _).alloc (Nat.le_refl _) _).trans (below_of_grown hg2 (Nat.le_refl _) (by simp))
    have hs2 := hI2.lt
    clear hI2 hg2
    go_wp2_with fail
    refine (isqrt_calls w2.heap.size w.heap.size r _ _ (two_new w2 _) (HI2.out.alloc _) (by rw [HH.out.1]; omega) (by rw [HH.out.1]; exact HH.out.2.1) (by rw [HH.out.1]; exact HH.out.2.2)).mono ?_
    rintro e1 w3 ⟨rfl, hI3, hg3⟩
    have HI3 := Lib.hid hI3
    have HX3 := Lib.hid ((HI2.out.alloc _).grown hg3 (by omega) (two_new w2 _))
    have HB3 : Hid (Below w.heap.size w w3) := (HB2.out.alloc (by omega) _).trans (below_of_grown hg3 (by omega) (by simp))
    have hs3 := hI3.lt
    clear hI3 hg3
    go_wp2_with fail
    refine (imul_calls w3.heap.size w2.heap.size w2.heap.size (r : Int) (r : Int) _ (two_new w3 _) (HI3.out.alloc _) (HI3.out.alloc _) (by rw [Int.natAbs_natCast]; omega) (by rw [Int.natAbs_natCast]; omega) (by omega) (by omega)).mono ?_
    rintro e1 w4 ⟨rfl, hI4, hg4⟩
    have HI4 := Lib.hid hI4
    have HX4 := Lib.hid ((HX3.out.alloc _).grown hg4 (by omega) (two_new w3 _))
    have HR4 := Lib.hid ((HI3.out.alloc _).grown hg4 (by omega) (two_new w3 _))
    have HB4 : Hid (Below w.heap.size w w4) := (HB3.out.alloc (by omega) _).trans (below_of_grown hg4 (by omega) (by simp))
    have hs4 := hI4.lt
    clear hI4 hg4
    have hmm : ((r : Int) * (r : Int)).natAbs = r * r := by rw [Int.natAbs_mul]; rfl
    go_wp2_with fail
    refine (icmp_calls w3.heap.size w.heap.size _ _ w4 HI4.out HX4.out (by rw [hmm]; exact Nat.le_trans (words_len_le HH.out.2.1) (by omega)) (by rw [HH.out.1]; omega)).mono ?_
    rintro e1 w5 ⟨rfl, nq, hw5⟩
    obtain rfl := hw5.symm
    have hres : ∃ br, Ending.returned (.tuple #[.pointer (some ⟨w2.heap.size, 0, none⟩), .int .i64 q, .bool (cmpZ ((r : Int) * (r : Int)) ((n : Int) * 2 ^ k) != 0)]) = .returned (.tuple #[.pointer (some ⟨br, 0, none⟩), .int .i64 q, .bool (decide (r * r ≠ n * 2 ^ k))]) ∧ w.heap.size ≤ br ∧ IR (w4.drewN nq) br (r : Int) ∧ Below w.heap.size w (w4.drewN nq) :=
      ⟨w2.heap.size, by rw [HCm.out], by omega, HR4.out, HB4.out.trans (below_drewN _ _ _)⟩
    have HRes := Lib.hid hres
    obtain ⟨cz, hcz⟩ : ∃ cz, cz = cmpZ ((r : Int) * (r : Int)) ((n : Int) * 2 ^ k) := ⟨_, rfl⟩
    rw [← hcz] at HRes ⊢
    clear hres hcz HCm
    go_wp2
    go_ret3
    exact HRes.out
end Go.Proofs.YtjbdadhggejoiaaGreatDoor

namespace Go.Proofs.YtjbdadhggejoiaaGreatDoor
open Go.RowKit
set_option maxRecDepth 100000
attribute [local go_sem] run_frombits run_bits store_f store_c

theorem fin_of {x : Nat} (h : x < 9218868437227405312) : Fin64 x ∧ fneg x = false := by
  refine ⟨⟨by omega, by omega⟩, ?_⟩
  unfold fneg
  rw [beq_eq_false_iff_ne]
  omega
theorem mag_lt {x y : Nat} (hx : x < 9218868437227405312) (hy : y < 9218868437227405312) (h : x < y) : fm x * 2 ^ (fe x - min (fe x) (fe y)).toNat < fm y * 2 ^ (fe y - min (fe x) (fe y)).toNat := by
  have hle : fe x ≤ fe y := by
    unfold fe
    split <;> split <;> omega
  rw [Int.min_eq_left hle, Int.sub_self]
  by_cases he : fe x = fe y
  · rw [he, Int.sub_self]
    have : fm x < fm y := by
      unfold fe at he
      unfold fm
      split <;> split <;> simp_all <;> omega
    simpa using this
  · have h1 := fm_lt x
    have h2 : 4503599627370496 ≤ fm y := by
      unfold fe at he hle
      unfold fm
      split
      · rename_i hz
        rw [if_pos hz] at he hle
        split at he <;> omega
      · omega
    obtain ⟨k, hk⟩ : ∃ k, (fe y - fe x).toNat = k + 1 := ⟨(fe y - fe x).toNat - 1, by omega⟩
    rw [hk, Nat.pow_succ]
    have h3 : fm y * 2 ≤ fm y * (2 ^ k * 2) := Nat.mul_le_mul_left _ (Nat.le_mul_of_pos_left _ (Nat.two_pow_pos k))
    simp only [Int.toNat_zero, Nat.pow_zero, Nat.mul_one]
    omega
theorem order_pos {x y : Nat} (hx : x < 9218868437227405312) (hy : y < 9218868437227405312) : Ieee.double.order x y = some (if x < y then .lt else if x = y then .eq else .gt) := by
  obtain ⟨fx, nx⟩ := fin_of hx
  obtain ⟨fy, ny⟩ := fin_of hy
  by_cases he : x = y
  · subst he
    rw [order_self fx, if_neg (by omega), if_pos rfl]
  · unfold Ieee.Format.order
    rw [read_fin fx, read_fin fy, nx, ny]
    simp only [Ieee.Datum.order, Ieee.signed, Bool.false_eq_true, if_false, Nat.shiftLeft_eq, Option.some.injEq]
    by_cases hlt : x < y
    · rw [if_pos hlt]
      have := mag_lt hx hy hlt
      exact icmp_lt (by omega)
    · rw [if_neg hlt, if_neg he]
      have := mag_lt hy hx (by omega)
      rw [Int.min_comm] at this
      exact icmp_gt' (by omega)

/-- the bits of a number of 53 digits -/
def fbits (m : Nat) (p : Int) : Nat := (p + 1074).toNat * 4503599627370496 + m
theorem cut_zero (neg : Bool) (n drop : Nat) (h : n % 2 ^ drop = 0) (hd : drop ≤ n.log2 + 2) : Ieee.Toward.even.cut neg n drop = n / 2 ^ drop := by
  unfold Ieee.Toward.cut
  simp only [Nat.min_eq_left hd, Nat.one_shiftLeft, h, Nat.mul_zero]
  have hp := Nat.two_pow_pos drop
  rw [decide_eq_false (by omega), beq_eq_false_iff_ne.2 (by omega : 2 ^ drop ≠ 0)]
  simp
theorem log2_53 {m : Nat} (h1 : 4503599627370496 ≤ m) (h2 : m < 9007199254740992) : m.log2 = 52 := (Nat.log2_eq_iff (by omega)).2 ⟨h1, h2⟩
/-- a number of 53 digits, shifted up: written exactly -/
theorem nearest_exact {m j : Nat} {p : Int} (h1 : 4503599627370496 ≤ m) (h2 : m < 9007199254740992) (hp1 : -1074 ≤ p) (hp2 : p ≤ 971) : Ieee.double.nearest false (m * 2 ^ j) (p - j) = fbits m p := by
  have hm : m * 2 ^ j ≠ 0 := Nat.mul_ne_zero (by omega) (Nat.ne_of_gt (Nat.two_pow_pos j))
  have hl : (m * 2 ^ j).log2 = 52 + j := by
    refine (Nat.log2_eq_iff hm).2 ⟨?_, ?_⟩
    · rw [Nat.pow_add]; exact Nat.mul_le_mul_right _ h1
    · rw [show 52 + j + 1 = 53 + j by omega, Nat.pow_add]; exact Nat.mul_lt_mul_of_pos_right h2 (Nat.two_pow_pos j)
  have e1 : (Ieee.double.fractionBits : Int) = 52 := rfl
  have e2 : Ieee.double.binade = 4503599627370496 := rfl
  have e3 : Ieee.double.infRung = 9218868437227405312 := rfl
  have e4 : Ieee.double.leastPlace = -1074 := rfl
  unfold Ieee.Format.nearest
  rw [if_neg hm]
  simp only [hl, e1, e2, e3, e4, Ieee.Format.word, Bool.false_eq_true, if_false]
  have hlast : max (p - (j : Int) + ((52 + j : Nat) : Int) - 52) (-1074) = p := by omega
  rw [hlast]
  have d1 : (p - (j : Int) - p).toNat = 0 := by omega
  have d2 : (p - (p - (j : Int))).toNat = j := by omega
  rw [d1, d2, Nat.shiftLeft_zero, cut_zero false (m * 2 ^ j) j (Nat.mul_mod_left _ _) (by rw [hl]; omega), Nat.mul_div_cancel _ (Nat.two_pow_pos j)]
  unfold fbits
  have : (p - -1074).toNat = (p + 1074).toNat := by omega
  rw [this]
  exact Nat.min_eq_left (by omega)
theorem fbits_lt {m : Nat} {p : Int} (h2 : m < 9007199254740992) (hp1 : -1074 ≤ p) (hp2 : p ≤ 971) : fbits m p < 9218868437227405312 := by
  unfold fbits; omega
theorem fbits_m {m : Nat} {p : Int} (h1 : 4503599627370496 ≤ m) (h2 : m < 9007199254740992) (hp1 : -1074 ≤ p) (hp2 : p ≤ 971) : fm (fbits m p) = m ∧ fe (fbits m p) = p := by
  have e1 : fbits m p / 4503599627370496 % 2048 = (p + 1075).toNat := by unfold fbits; omega
  have e2 : fbits m p % 4503599627370496 = m - 4503599627370496 := by unfold fbits; omega
  unfold fm fe
  rw [e1, e2, if_neg (by omega), if_neg (by omega)]
  omega
/-- one times a float -/
theorem mul_one_f {m : Nat} {p : Int} (h1 : 4503599627370496 ≤ m) (h2 : m < 9007199254740992) (hp1 : -1074 ≤ p) (hp2 : p ≤ 971) : Ieee.double.mul 4607182418800017408 (fbits m p) = some (fbits m p) := by
  obtain ⟨e1, e2⟩ := fbits_m h1 h2 hp1 hp2
  obtain ⟨f1, n1⟩ := fin_of (fbits_lt h2 hp1 hp2)
  have r1 : Ieee.double.read 4607182418800017408 = .number false 4503599627370496 (-52) := rfl
  unfold Ieee.Format.mul
  rw [r1, read_fin f1, e1, e2, n1]
  simp only [Ieee.Datum.product, Option.map_some, Ieee.Format.write, Bool.bne_false, Option.some.injEq]
  have := nearest_exact (j := 52) h1 h2 hp1 hp2
  rw [Nat.mul_comm, show (-52 : Int) + p = p - (52 : Nat) by omega]
  exact this
end Go.Proofs.YtjbdadhggejoiaaGreatDoor
