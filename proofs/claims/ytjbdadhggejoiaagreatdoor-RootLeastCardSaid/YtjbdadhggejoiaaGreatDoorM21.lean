/- math.Ldexp of a whole number of 53 digits. -/
import Derived.Test.YtjbdadhggejoiaaGreatDoorM20
import Derived.Laws.FloatArith

namespace Go.Proofs.YtjbdadhggejoiaaGreatDoor
open Go.RowKit
set_option maxRecDepth 100000
attribute [local go_sem] run_frombits run_bits store_f store_c

theorem abs_calls (x : Nat) (w : World) (h : x < 18446744073709551616) : Calls Tryz.prog 46 #[.float .f64 x] w fun e w' => e = .returned (.float .f64 (x % 9223372036854775808)) ∧ w = w' := by
  have ha := andnot_sign h
  go_enter Tryz.func46, Tryz.ntmps46
  go_wp2
  go_ret
  refine ⟨?_, rfl⟩
  rw [← ha]
  rfl
theorem normalize_calls (x : Nat) (w : World) (h1 : 4503599627370496 ≤ x) (h2 : x < 9218868437227405312) : Calls Tryz.prog 162 #[.float .f64 x] w fun e w' => e = .returned (.tuple #[.float .f64 x, .int .i64 0]) ∧ w = w' := by
  have ho : (FloatKind.f64.format.order x 4503599627370496 == some Ordering.lt) = false := by
    rw [dbl, order_pos h2 (by omega), if_neg (by omega)]
    split <;> rfl
  have hm : x % 9223372036854775808 = x := Nat.mod_eq_of_lt (by omega)
  have hA := fun W => abs_calls x W (by omega)
  rw [hm] at hA
  have HA := Lib.hid hA
  clear hA hm
  go_enter Tryz.func162, Tryz.ntmps162
  go_wp2_with fail
  refine (HA.out _).mono ?_
  rintro e1 w1 ⟨rfl, rfl⟩
  go_wp2
  go_ret2
  exact ⟨rfl, rfl⟩
theorem and_split {k a b r s : Nat} (hr : r < 2 ^ k) (hs : s < 2 ^ k) : (2 ^ k * a + r) &&& (2 ^ k * b + s) = 2 ^ k * (a &&& b) + (r &&& s) := by
  apply Nat.eq_of_testBit_eq
  intro i
  have h3 : r &&& s < 2 ^ k := Nat.and_lt_two_pow _ hs
  rw [Nat.testBit_and, Nat.testBit_two_pow_mul_add _ hr, Nat.testBit_two_pow_mul_add _ hs, Nat.testBit_two_pow_mul_add _ h3]
  split <;> simp
set_option maxHeartbeats 1000000 in
theorem ldexp_calls (m : Nat) (p : Int) (w : World) (h1 : 4503599627370496 ≤ m) (h2 : m < 9007199254740992) (hp1 : -1074 ≤ p) (hp2 : p ≤ 971) :
    Calls Tryz.prog 160 #[.float .f64 (fbits m 0), .int .i64 p] w fun e w' => e = .returned (.float .f64 (fbits m p)) ∧ w = w' := by
  obtain ⟨x, hx⟩ : ∃ x, x = fbits m 0 := ⟨_, rfl⟩
  obtain ⟨z, hz⟩ : ∃ z, z = fbits m p := ⟨_, rfl⟩
  have hmul := fun (t : TypeId) (w : World) => run_float_arith (P := Tryz.prog) w .mul t .f64 4607182418800017408 z z (by rw [hz]; exact mul_one_f h1 h2 hp1 hp2)
  have hxe : x = 1074 * 4503599627370496 + m := by rw [hx]; rfl
  have hze : z = (p + 1074).toNat * 4503599627370496 + m := by rw [hz]; rfl
  rw [← hx, ← hz]
  clear hx hz
  have ho : (FloatKind.f64.format.order x 0 == some Ordering.eq) = false := by
    rw [dbl, order_pos (by omega) (by omega), if_neg (by omega), if_neg (by omega)]
    rfl
  have hfin := (fin_of (x := x) (by omega)).1
  have hI := fun W => isinf_calls x W hfin
  have hN := fun W => isnan_calls x W hfin
  have hNo := fun W => normalize_calls x W (by omega) (by omega)
  obtain ⟨f, hf⟩ : ∃ f, f = m - 4503599627370496 := ⟨_, rfl⟩
  obtain ⟨q, hq⟩ : ∃ q : Nat, q = (p + 1075).toNat := ⟨_, rfl⟩
  have hqI : (p + 52 + 1023) = (q : Int) := by omega
  have hx52 : (x : Int) / 4503599627370496 = 1075 := by omega
  have ha1 : bits .and .i64 1075 2047 = 1075 := by decide
  have han : bits .andNot .u64 (x : Int) 9218868437227405312 = (f : Int) := by
    have := u64_andNot_nat x 9218868437227405312 (by omega) (by decide)
    rw [show ((9218868437227405312 : Nat) : Int) = 9218868437227405312 from rfl] at this
    rw [this]
    have e : x &&& (18446744073709551615 - 9218868437227405312) = f := by
      have := and_split (k := 52) (a := 1075) (b := 2048) (r := f) (s := 4503599627370495) (by omega) (by decide)
      rw [show x = 2 ^ 52 * 1075 + f by omega, show (18446744073709551615 - 9218868437227405312 : Nat) = 2 ^ 52 * 2048 + 4503599627370495 by decide, this]
      have h4 := Nat.and_two_pow_sub_one_eq_mod f 52
      rw [show (2 : Nat) ^ 52 - 1 = 4503599627370495 by decide] at h4
      rw [show (1075 &&& 2048 : Nat) = 0 by decide, h4]
      omega
    rw [e]
  have hor : bits .or .u64 (f : Int) ((q : Int) * 4503599627370496) = (z : Int) := by
    have := u64_or_nat f (q * 4503599627370496) (by omega) (by omega)
    have e2 : ((q : Int) * 4503599627370496) = ((q * 4503599627370496 : Nat) : Int) := by omega
    rw [e2, this, Nat.or_comm, Nat.mul_comm]
    have h3 := Nat.two_pow_add_eq_or_of_lt (i := 52) (b := f) (by omega) q
    rw [show (4503599627370496 : Nat) = 2 ^ 52 by decide, ← h3]
    omega
  have hzN : ((z : Int)).toNat = z := Int.toNat_natCast z
  have HI := Lib.hid hI
  have HN := Lib.hid hN
  have HNo := Lib.hid hNo
  clear hI hN hNo hxe hze hfin hf hq
  go_enter Tryz.func160, Tryz.ntmps160
  go_wp2_with (first
    | (go_at_call 18; refine (HI.out _).mono ?_; rintro e1 w1 ⟨rfl, rfl⟩)
    | (go_at_call 17; refine (HN.out _).mono ?_; rintro e1 w1 ⟨rfl, rfl⟩)
    | (go_at_call 162; refine (HNo.out _).mono ?_; rintro e1 w1 ⟨rfl, rfl⟩))
  go_ret
  exact ⟨rfl, rfl⟩
theorem mldexp_calls (m : Nat) (p : Int) (w : World) (h1 : 4503599627370496 ≤ m) (h2 : m < 9007199254740992) (hp1 : -1074 ≤ p) (hp2 : p ≤ 971) :
    Calls Tryz.prog 142 #[.float .f64 (fbits m 0), .int .i64 p] w fun e w' => e = .returned (.float .f64 (fbits m p)) ∧ w = w' := by
  have hl := fun W => ldexp_calls m p W h1 h2 hp1 hp2
  go_enter Tryz.func142, Tryz.ntmps142
  go_wp2_with (refine (hl _).mono ?_; rintro e1 w1 ⟨rfl, rfl⟩)
  go_ret
  exact ⟨rfl, rfl⟩
/-- a whole number of 53 digits as a float -/
theorem ofNat_f {m : Nat} (h1 : 4503599627370496 ≤ m) (h2 : m < 9007199254740992) : floatOfInt .f64 (m : Int) = fbits m 0 := by
  have := nearest_exact (j := 0) (p := 0) h1 h2 (by decide) (by decide)
  rw [Nat.pow_zero, Nat.mul_one] at this
  rw [← this]
  have hd : decide ((m : Int) < 0) = false := by rw [decide_eq_false_iff_not]; omega
  show Ieee.double.nearest (decide ((m : Int) < 0)) (m : Int).natAbs 0 = _
  rw [hd]
  rfl
end Go.Proofs.YtjbdadhggejoiaaGreatDoor
