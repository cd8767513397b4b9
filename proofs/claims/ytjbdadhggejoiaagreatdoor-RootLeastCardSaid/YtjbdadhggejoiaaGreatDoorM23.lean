/- 'dyad': float, Round, Ratio, Sqrt: results that are neither nought nor too small nor too great.
   'dyad': Sqrt.
   'dyad': Ratio.
   'dyad': exact numbers: of, plus, times, minus.
   'dyad': exact numbers: plus, minus.
   'dyad': exact numbers: minus. -/
import Derived.Test.YtjbdadhggejoiaaGreatDoorM22

namespace Go.Proofs.YtjbdadhggejoiaaGreatDoor
open Go.RowKit
set_option maxRecDepth 100000
attribute [local go_sem] run_frombits run_bits store_f store_c

theorem sign_calls (x : Nat) (w : World) (h : x < 18446744073709551616) : Calls Tryz.prog 13 #[.float .f64 x, .float .f64 13830554455654793216] w fun e w' => e = .returned (.float .f64 (x % 9223372036854775808 + 9223372036854775808)) ∧ w = w' := by
  have ha := andnot_sign h
  have hn : ∃ y : Nat, bits .andNot .u64 (x : Int) 9223372036854775808 = (y : Int) := by
    have := u64_andNot_nat x 9223372036854775808 h (by decide)
    rw [show ((9223372036854775808 : Nat) : Int) = 9223372036854775808 from rfl] at this
    exact ⟨_, this⟩
  obtain ⟨y, hy⟩ := hn
  rw [hy, Int.toNat_natCast] at ha
  have hb : bits .and .u64 13830554455654793216 9223372036854775808 = 9223372036854775808 := by decide
  have hc : bits .or .u64 (y : Int) 9223372036854775808 = ((y + 9223372036854775808 : Nat) : Int) := by
    have := u64_or_nat y 9223372036854775808 (by omega) (by decide)
    rw [show ((9223372036854775808 : Nat) : Int) = 9223372036854775808 from rfl] at this
    rw [this, Nat.or_comm]
    have h2 := Nat.two_pow_add_eq_or_of_lt (i := 63) (b := y) (by omega) 1
    exact congrArg _ (h2.symm.trans (Nat.add_comm _ _))
  rw [← ha]
  clear ha
  go_enter Tryz.func13, Tryz.ntmps13
  go_wp2
  go_ret
  refine ⟨?_, rfl⟩
  rfl
/-- which way the magnitude goes up -/
def flUp (neg : Bool) (mode : Int) : Bool := if neg then decide (mode = 1) else decide (mode = 3)
def floF (neg : Bool) (n : Nat) (e : Int) (rest : Bool) (mode : Int) : Nat := (if neg then 9223372036854775808 else 0) + magF n e rest (flUp neg mode) (decide (mode = 2))
theorem magF_lt {n : Nat} {e : Int} {rest up near : Bool} (hn : n ≠ 0) (h1 : -1074 ≤ (Go.bitLen n : Int) + e - 53) (h2 : (Go.bitLen n : Int) + e - 53 ≤ 970) : magF n e rest up near < 9218868437227405312 := by
  unfold magF
  have hb := mg0_bd hn
  have hi : (mgInc n rest up near).toNat ≤ 1 := Bool.toNat_le _
  by_cases h : mg0 n + (mgInc n rest up near).toNat < 9007199254740992
  · exact fbits_lt h h1 (by omega)
  · rw [show mg0 n + (mgInc n rest up near).toNat = 9007199254740992 by omega, fbits_up h1]
    exact fbits_lt (by omega) (by omega) (by omega)

set_option maxHeartbeats 4000000 in
theorem dfloat_calls (bn n : Nat) (e mode : Int) (neg rest : Bool) (w : World) (hI : IR w bn (n : Int)) (hn : n ≠ 0) (hl : (words n).length ≤ 8192) (h1 : -1074 ≤ (Go.bitLen n : Int) + e - 53) (h2 : (Go.bitLen n : Int) + e - 53 ≤ 970) :
    Calls Tryz.prog 80 #[.bool neg, .pointer (some ⟨bn, 0, none⟩), .int .i64 e, .bool rest, .int .i64 mode] w fun en w' => en = .returned (.float .f64 (floF neg n e rest mode)) ∧ Below w.heap.size w w' := by
  have hb := ibits_calls bn (n : Int) w hI (Nat.le_trans (by rw [Int.natAbs_natCast]; exact hl) (by decide))
  rw [Int.natAbs_natCast] at hb
  have hm := dmag_calls bn n e rest (flUp neg mode) (decide (mode = 2)) w hI hn hl h1 h2
  have hlt := magF_lt (rest := rest) (up := flUp neg mode) (near := decide (mode = 2)) hn h1 h2
  have hF : floF neg n e rest mode = (if neg then 9223372036854775808 else 0) + magF n e rest (flUp neg mode) (decide (mode = 2)) := rfl
  obtain ⟨F, hF1⟩ : ∃ F, F = floF neg n e rest mode := ⟨_, rfl⟩
  obtain ⟨M, hM⟩ : ∃ M, M = magF n e rest (flUp neg mode) (decide (mode = 2)) := ⟨_, rfl⟩
  obtain ⟨B, hB⟩ : ∃ B : Int, B = (Go.bitLen n : Int) := ⟨_, rfl⟩
  have hbl : Go.bitLen n ≤ 262144 := by
    have h1 := val_lt (words_isW n)
    rw [val_words] at h1
    have h2 := (bitLen_spec n).2 hn
    have h3 : 2 ^ (Go.bitLen n - 1) < 2 ^ (32 * (words n).length) := by rw [Nat.pow_mul]; exact Nat.lt_of_le_of_lt h2 h1
    have h4 := (Nat.pow_lt_pow_iff_right (by decide)).1 h3
    omega
  rw [← hF1] at hF ⊢
  rw [← hM] at hF hm hlt
  rw [← hB] at hb hm h1 h2
  have hBb : 0 ≤ B ∧ B ≤ 262144 := by omega
  have hFF := Lib.hid hF
  have HB := Lib.hid hb
  have HM := Lib.hid hm
  clear hI hF hF1 hM hB hb hm hbl hl
  go_enter Tryz.func80, Tryz.ntmps80
  cases neg
  · have hu : flUp false mode = (mode == 3) := by unfold flUp; by_cases h : mode = 3 <;> simp [h]
    have hu2 : decide (mode = 2) = (mode == 2) := rfl
    rw [hu, hu2] at HM
    clear hu hu2
    have hFM : F = M := by rw [hFF.out, if_neg (by simp)]; omega
    clear hFF
    subst hFM
    go_wp2_with fail
    refine HB.out.mono ?_
    rintro e1 w8 ⟨rfl, hw8⟩
    obtain rfl := hw8.symm
    go_wp2_with fail
    refine HM.out.mono ?_
    rintro e1 w9 ⟨rfl, hB9⟩
    have HB9 := Lib.hid hB9
    clear hB9
    go_wp2
    go_ret
    exact ⟨rfl, HB9.out⟩
  · have hu : flUp true mode = (mode == 1) := by unfold flUp; by_cases h : mode = 1 <;> simp [h]
    have hu2 : decide (mode = 2) = (mode == 2) := rfl
    rw [hu, hu2] at HM
    clear hu hu2
    have hs := fun W => sign_calls M W (by omega)
    have hFM : F = M % 9223372036854775808 + 9223372036854775808 := by rw [hFF.out, if_pos rfl]; omega
    rw [← hFM] at hs
    have HS := Lib.hid hs
    clear hFF hs hFM
    go_wp2_with fail
    refine HB.out.mono ?_
    rintro e1 w8 ⟨rfl, hw8⟩
    obtain rfl := hw8.symm
    go_wp2_with fail
    refine HM.out.mono ?_
    rintro e1 w9 ⟨rfl, hB9⟩
    have HB9 := Lib.hid hB9
    clear hB9
    go_wp2_with fail
    refine (HS.out _).mono ?_
    rintro e1 w10 ⟨rfl, hw10⟩
    obtain rfl := hw10.symm
    go_wp2
    go_ret
    exact ⟨rfl, HB9.out⟩

/-- a number whose rounding is an ordinary float -/
def Dy.mid (a : Dy) : Prop := a.m ≠ 0 ∧ -1074 ≤ (Go.bitLen a.m : Int) + a.e - 53 ∧ (Go.bitLen a.m : Int) + a.e - 53 ≤ 970
def roundF (a : Dy) (mode : Nat) : Nat := floF a.neg a.m a.e false mode
set_option maxHeartbeats 4000000 in
theorem dround_calls (v : Value) (a : Dy) (mode : Nat) (w : World) (hv : DR w v a) (ho : a.ok) (hm : a.mid) (hmode : 1 ≤ mode ∧ mode ≤ 3) :
    Calls Tryz.prog 104 #[v, .int .i64 mode] w fun en w' => en = .returned (.tuple #[.float .f64 (roundF a mode), .int .i64 0]) ∧ Below w.heap.size w w' := by
  unfold roundF
  have hV := fun o => dvalid_calls v a.neg a.m a.e (w.alloc o) (NR.grown0 hv (grown_alloc _ _ _)) ho
  have hK := fun W => dknown_calls mode W hmode
  obtain ⟨A, c, rfl, hc, hcm, hW⟩ := hv
  have hN1 : NR w (NV a.neg A (words a.m).length c a.e) a.neg a.m a.e := ⟨A, c, rfl, hc, hcm, hW⟩
  have hVa := fun (W : World) (h : w.grownBy W none) => value_calls _ a.neg a.m a.e W (NR.grown0 hN1 h) (Nat.le_trans ho.len (by decide))
  unfold NV at hV hVa ⊢
  have hz := lenZ a.m
  rw [decide_eq_false hm.1] at hz
  obtain ⟨L, hL⟩ : ∃ L, L = (words a.m).length := ⟨_, rfl⟩
  simp only [← hL] at hV hVa hz hc ⊢
  have HVa := Lib.hid hVa
  clear hVa
  have HL := Lib.hid hL
  have HV := Lib.hid hV
  have HK := Lib.hid hK
  have HN := Lib.hid hN1
  have HM := Lib.hid hm
  have hlen : (words a.m).length ≤ 1048576 := Nat.le_trans ho.len (by decide)
  have hlen2 : (words a.m).length ≤ 8192 := Nat.le_trans ho.len (by decide)
  clear hV hL hK hm hN1
  go_enter Tryz.func104, Tryz.ntmps104
  go_wp2_with fail
  refine (HV.out _).mono ?_
  rintro e1 w1 ⟨rfl, hg⟩
  have hr0 := heap_grown (heap_at (w := w) (o := .cells #[.bool a.neg, .slice A L c, .int .i64 a.e] 74) rfl) hg
  obtain ⟨x0, x1, x2⟩ := row3 hr0
  have HW1 := Lib.hid (grown_trans (grown_alloc w _ none) hg)
  have hsz := hg.size
  simp only [World.size_alloc] at hsz
  clear hg hr0
  go_wp2_with fail
  refine (HK.out _).mono ?_
  rintro e1 w2 ⟨rfl, hw2⟩
  obtain rfl := hw2.symm
  go_wp2_with fail
  refine (HVa.out _ HW1.out).mono ?_
  rintro e1 w3 ⟨bn, rfl, hbn, hIa, hga⟩
  have hg3 := grown_of_below hga none
  have z0 := cell_ext hg3 x0
  have z1 := cell_ext hg3 x1
  have z2 := cell_ext hg3 x2
  have hs3 := hga.size
  have hI3 := hIa.lt
  have HA := Lib.hid (iabs_calls bn bn _ w3.drew (show Two w3.drew bn from hIa.two) (show IR w3.drew bn _ from hIa))
  rw [show ((sg a.neg a.m).natAbs : Int) = (a.m : Int) by rw [sg_abs]] at HA
  have HW3 : Hid (Below w.heap.size w w3) := (below_of_grown0 HW1.out).trans (hga.mono (by omega))
  have G0 : Hid (w3.grownBy w3.drew (some bn)) := ⟨rfl, rfl, rfl, Nat.le_refl _, fun _ _ _ => rfl⟩
  have K6 : Hid (∀ w' : World, w3.grownBy w' (some bn) → w'.cell? ⟨w.heap.size, 0, none⟩ = some (.bool a.neg) ∧ w'.cell? ⟨w.heap.size, 1, none⟩ = some (.slice A L c) ∧ w'.cell? ⟨w.heap.size, 2, none⟩ = some (.int .i64 a.e) ∧ w3.grownBy w' (some bn)) := fun w' h =>
    ⟨cell_grown h (by omega) (by omega) z0, cell_grown h (by omega) (by omega) z1, cell_grown h (by omega) (by omega) z2, h⟩
  clear hIa hga hg3 x0 x1 x2 hW
  go_upto_region 6 with fail
  go_region_held3 (fun w' : World => w'.cell? ⟨w.heap.size, 0, none⟩ = some (.bool a.neg) ∧ w'.cell? ⟨w.heap.size, 1, none⟩ = some (.slice A L c) ∧ w'.cell? ⟨w.heap.size, 2, none⟩ = some (.int .i64 a.e) ∧ w3.grownBy w' (some bn))
    (first
      | exact K6.out _ G0.out
      | (go_split_ands; exact K6.out _ (grown_trans (by assumption) hG4.out))
      | (go_split_ands; exact K6.out _ (grown_trans (by assumption) (grown_of_below HB5.out _))))
    (first
      | (go_at_call 105; go_split_ands; refine HA.out.mono ?_; rintro e1 w4 ⟨rfl, hI4, hg4⟩; have hG4 := Lib.hid hg4; have hG34 := Lib.hid (grown_trans (show w3.grownBy _ (some bn) by assumption) hg4); have HI4 := Lib.hid hI4; clear hI4 hg4)
      | (go_at_call 80; go_split_ands; refine (dfloat_calls bn a.m a.e mode a.neg false _ HI4.out HM.out.1 hlen2 HM.out.2.1 HM.out.2.2).mono ?_; rintro e1 w5 ⟨rfl, hB5⟩; have HB5 := Lib.hid hB5; clear hB5))
  all_goals
    have hBB : Hid (Below w.heap.size w w5) := by
      have h4 : Below w.heap.size w3 w4 := below_of_grown (w := w3) hG34.out (by omega) hI3
      have h4s := h4.size
      exact HW3.out.trans (h4.trans (HB5.out.mono (by omega)))
    go_wp2
    go_ret2
    exact ⟨rfl, hBB.out⟩
end Go.Proofs.YtjbdadhggejoiaaGreatDoor

namespace Go.Proofs.YtjbdadhggejoiaaGreatDoor
open Go.RowKit
set_option maxRecDepth 100000

set_option maxHeartbeats 4000000 in
theorem dsqrt_zero (v : Value) (mode : Nat) (w : World) (hv : NR w v false 0 0) (hmode : 1 ≤ mode ∧ mode ≤ 3) :
    Calls Tryz.prog 47 #[v, .int .i64 mode] w fun en w' => en = .returned (.tuple #[.float .f64 0, .int .i64 0]) ∧ Below w.heap.size w w' := by
  have ho : Ok false 0 0 := Or.inl ⟨rfl, rfl, rfl⟩
  have hV := fun o => dvalid_calls v false 0 0 (w.alloc o) (NR.grown0 hv (grown_alloc _ _ _)) ho
  have hK := fun W => dknown_calls mode W hmode
  obtain ⟨A, c, rfl, hc, hcm, hW⟩ := hv
  unfold NV at hV ⊢
  rw [words_zero] at hV ⊢
  simp only [List.length_nil] at hV ⊢
  have HV := Lib.hid hV
  have HK := Lib.hid hK
  clear hV hK hW
  go_enter Tryz.func47, Tryz.ntmps47
  go_wp2_with fail
  refine (HV.out _).mono ?_
  rintro e1 w1 ⟨rfl, hg⟩
  have hr0 := heap_grown (heap_at (w := w) (o := .cells #[.bool false, .slice A 0 c, .int .i64 0] 74) rfl) hg
  obtain ⟨x0, x1, x2⟩ := row3 hr0
  have HW1 := Lib.hid (grown_trans (grown_alloc w _ none) hg)
  clear hg hr0
  go_wp2_with fail
  refine (HK.out _).mono ?_
  rintro e1 w2 ⟨rfl, hw2⟩
  obtain rfl := hw2.symm
  go_wp2
  go_ret2
  exact ⟨rfl, below_of_grown0 HW1.out⟩

/-- what a root rounds to: r is the root of the digits, moved -/
def sqrtF (m r : Nat) (e : Int) (mode : Nat) : Nat := floF false r ((e - rk m e) / 2) (decide (r * r ≠ m * 2 ^ rk m e)) mode
set_option maxHeartbeats 4000000 in
theorem dsqrt_calls (v : Value) (m r mode : Nat) (e : Int) (w : World) (hv : NR w v false m e) (ho : Ok false m e) (hm : m ≠ 0) (hmode : 1 ≤ mode ∧ mode ≤ 3)
    (hr1 : r * r ≤ m * 2 ^ rk m e) (hr2 : m * 2 ^ rk m e < (r + 1) * (r + 1)) (hr0 : r ≠ 0) (hb1 : -1074 ≤ (Go.bitLen r : Int) + (e - rk m e) / 2 - 53) (hb2 : (Go.bitLen r : Int) + (e - rk m e) / 2 - 53 ≤ 970) :
    Calls Tryz.prog 47 #[v, .int .i64 mode] w fun en w' => en = .returned (.tuple #[.float .f64 (sqrtF m r e mode), .int .i64 0]) ∧ Below w.heap.size w w' := by
  unfold sqrtF
  have hV := fun o => dvalid_calls v false m e (w.alloc o) (NR.grown0 hv (grown_alloc _ _ _)) ho
  have hK := fun W => dknown_calls mode W hmode
  have hml := ho.len
  have he : -65536 ≤ e ∧ e ≤ 65536 := by
    rcases ho with ⟨h, _⟩ | ⟨_, _, h1, h2⟩
    · exact absurd h hm
    · exact ⟨h1, h2⟩
  have hrl : (words r).length ≤ 8192 := by
    have h1 := val_lt (words_isW m)
    rw [val_words] at h1
    have hk : rk m e ≤ 160 := by unfold rk rk0; split <;> omega
    have h2 : m * 2 ^ rk m e < 4294967296 ^ (words m).length * 2 ^ 160 :=
      Nat.lt_of_lt_of_le (Nat.mul_lt_mul_of_pos_right h1 (Nat.two_pow_pos _)) (Nat.mul_le_mul_left _ (Nat.pow_le_pow_right (by decide) hk))
    rw [show 2 ^ 160 = 4294967296 ^ 5 by decide, ← Nat.pow_add] at h2
    have h3 : r ≤ r * r := Nat.le_mul_self r
    have h4 := words_len_lt (Nat.lt_of_le_of_lt (Nat.le_trans h3 hr1) h2)
    omega
  have hR := fun (bn : Nat) (W : World) (h : IR W bn (m : Int)) => drooted_calls bn m r e W h (by omega) (by omega) hr1 hr2
  have hF := fun (bn : Nat) (W : World) (h : IR W bn (r : Int)) => dfloat_calls bn r ((e - rk m e) / 2) mode false (decide (r * r ≠ m * 2 ^ rk m e)) W h hr0 hrl hb1 hb2
  obtain ⟨Fl, hFl⟩ : ∃ F, F = floF false r ((e - rk m e) / 2) (decide (r * r ≠ m * 2 ^ rk m e)) mode := ⟨_, rfl⟩
  rw [← hFl] at hF ⊢
  obtain ⟨E2, hE2⟩ : ∃ E, E = (e - rk m e) / 2 := ⟨_, rfl⟩
  obtain ⟨rest, hrest⟩ : ∃ d, d = decide (r * r ≠ m * 2 ^ rk m e) := ⟨_, rfl⟩
  rw [← hE2, ← hrest] at hF hR
  obtain ⟨A, c, rfl, hc, hcm, hW⟩ := hv
  have hN1 : NR w (NV false A (words m).length c e) false m e := ⟨A, c, rfl, hc, hcm, hW⟩
  have hVa := fun (W : World) (h : w.grownBy W none) => value_calls _ false m e W (NR.grown0 hN1 h) (Nat.le_trans ho.len (by decide))
  unfold NV at hV hVa ⊢
  have hz := lenZ m
  rw [decide_eq_false hm] at hz
  obtain ⟨L, hL⟩ : ∃ L, L = (words m).length := ⟨_, rfl⟩
  simp only [← hL] at hV hVa hz hc hml ⊢
  have HVa := Lib.hid hVa
  have HV := Lib.hid hV
  have HK := Lib.hid hK
  have HR := Lib.hid hR
  have HF := Lib.hid hF
  clear hVa hV hK hR hF hL hN1 hW hE2 hrest hFl hb1 hb2 hr1 hr2 ho
  go_enter Tryz.func47, Tryz.ntmps47
  go_wp2_with fail
  refine (HV.out _).mono ?_
  rintro e1 w1 ⟨rfl, hg⟩
  have hr0 := heap_grown (heap_at (w := w) (o := .cells #[.bool false, .slice A L c, .int .i64 e] 74) rfl) hg
  obtain ⟨x0, x1, x2⟩ := row3 hr0
  have HW1 := Lib.hid (grown_trans (grown_alloc w _ none) hg)
  have hsz := hg.size
  simp only [World.size_alloc] at hsz
  clear hg hr0
  go_wp2_with fail
  refine (HK.out _).mono ?_
  rintro e1 w2 ⟨rfl, hw2⟩
  obtain rfl := hw2.symm
  have K6 : Hid (∀ w' : World, w1.grownBy w' none → w'.cell? ⟨w.heap.size, 0, none⟩ = some (.bool false) ∧ w'.cell? ⟨w.heap.size, 1, none⟩ = some (.slice A L c) ∧ w'.cell? ⟨w.heap.size, 2, none⟩ = some (.int .i64 e) ∧ w1.grownBy w' none) := fun w' h =>
    ⟨cell_ext h x0, cell_ext h x1, cell_ext h x2, h⟩
  have G0 : Hid (w1.grownBy w1.drew none) := ⟨rfl, rfl, rfl, Nat.le_refl _, fun _ _ _ => rfl⟩
  go_upto_region 7 with fail
  go_region_held3 (fun w' : World => w'.cell? ⟨w.heap.size, 0, none⟩ = some (.bool false) ∧ w'.cell? ⟨w.heap.size, 1, none⟩ = some (.slice A L c) ∧ w'.cell? ⟨w.heap.size, 2, none⟩ = some (.int .i64 e) ∧ w1.grownBy w' none)
    (first
      | exact K6.out _ G0.out
      | (go_split_ands; exact K6.out _ (grown_trans (by assumption) hgl)))
    (first
      | (go_at_call 79; go_split_ands; refine (HVa.out _ (grown_trans HW1.out (by assumption))).mono ?_; rintro e1 w3 ⟨bn, rfl, hbn, hIa, hga⟩; have hgl := grown_of_below hga none; have HIa := Lib.hid hIa; clear hIa hga)
      | (go_at_call 78; go_split_ands; refine (HR.out bn _ HIa.out).mono ?_; rintro e1 w5 ⟨br, rfl, hbr, hI5, hB5⟩; have hgl := grown_of_below hB5 none; have HB5 := Lib.hid (grown_trans (show w1.grownBy _ none by assumption) hgl); have HI5 := Lib.hid hI5; clear hB5 hI5))
  all_goals
    go_wp2_with fail
    refine (HF.out br w5 HI5.out).mono ?_
    rintro e1 w6 ⟨rfl, hB6⟩
    have hBB : Hid (Below w.heap.size w w6) := by
      have h5 : Below w.heap.size w w5 := below_of_grown0 (grown_trans HW1.out HB5.out)
      have h5s := h5.size
      exact h5.trans (hB6.mono (by omega))
    clear hB6
    go_wp2
    go_ret2
    exact ⟨rfl, hBB.out⟩
end Go.Proofs.YtjbdadhggejoiaaGreatDoor

namespace Go.Proofs.YtjbdadhggejoiaaGreatDoor
open Go.RowKit
set_option maxRecDepth 100000

theorem bl_len {n k : Nat} (hl : (words n).length ≤ k) : Go.bitLen n ≤ 32 * k := by
  by_cases hn : n = 0
  · subst hn; rw [bl_zero]; omega
  · have h1 := val_lt (words_isW n)
    rw [val_words] at h1
    have h2 := (bitLen_spec n).2 hn
    have h3 : 2 ^ (Go.bitLen n - 1) < 2 ^ (32 * (words n).length) := by rw [Nat.pow_mul]; exact Nat.lt_of_le_of_lt h2 h1
    have h4 := (Nat.pow_lt_pow_iff_right (by decide)).1 h3
    omega
/-- by how much the upper number is moved -/
def qk (n d : Nat) : Nat := (64 - ((Go.bitLen n : Int) - Go.bitLen d)).toNat
def ratioF (a b : Dy) (mode : Nat) : Nat := floF (a.neg != b.neg) (a.m * 2 ^ qk a.m b.m / b.m) (a.e - b.e - qk a.m b.m) (decide (a.m * 2 ^ qk a.m b.m % b.m ≠ 0)) mode
set_option maxHeartbeats 4000000 in
theorem dratio_calls (v v2 : Value) (a b : Dy) (mode : Nat) (w : World) (hv : DR w v a) (ho : a.ok) (hv2 : DR w v2 b) (ho2 : b.ok) (hm : a.m ≠ 0) (hm2 : b.m ≠ 0) (hmode : 1 ≤ mode ∧ mode ≤ 3)
    (hq : (words (a.m * 2 ^ qk a.m b.m / b.m)).length ≤ 8192) (hq0 : a.m * 2 ^ qk a.m b.m / b.m ≠ 0) (hb1 : -1074 ≤ (Go.bitLen (a.m * 2 ^ qk a.m b.m / b.m) : Int) + (a.e - b.e - qk a.m b.m) - 53) (hb2 : (Go.bitLen (a.m * 2 ^ qk a.m b.m / b.m) : Int) + (a.e - b.e - qk a.m b.m) - 53 ≤ 970) :
    Calls Tryz.prog 73 #[v, v2, .int .i64 mode] w fun en w' => en = .returned (.tuple #[.float .f64 (ratioF a b mode), .int .i64 0]) ∧ Below w.heap.size w w' := by
  unfold ratioF
  obtain ⟨kn, hkn⟩ : ∃ k, k = qk a.m b.m := ⟨_, rfl⟩
  rw [← hkn] at hq hq0 hb1 hb2 ⊢
  obtain ⟨Q, hQ⟩ : ∃ k, k = a.m * 2 ^ kn / b.m := ⟨_, rfl⟩
  obtain ⟨R, hR⟩ : ∃ k, k = a.m * 2 ^ kn % b.m := ⟨_, rfl⟩
  rw [← hQ] at hq hq0 hb1 hb2 ⊢
  rw [← hR]
  have hbl1 := bl_len ho.len
  have hbl2 := bl_len ho2.len
  have hke : max (64 - ((Go.bitLen a.m : Int) - Go.bitLen b.m)) 0 = (kn : Int) := by rw [hkn]; unfold qk; omega
  have hkb : kn ≤ 100000 := by omega
  have hlx : (words a.m).length ≤ 1048576 := Nat.le_trans ho.len (by decide)
  have hly : (words b.m).length ≤ 1048576 := Nat.le_trans ho2.len (by decide)
  have hlq : (words (a.m * 2 ^ kn)).length ≤ 536870912 := by
    have := words_len_mul (n := a.m) (k := kn)
    have := ho.len
    omega
  have hK := fun W => dknown_calls mode W hmode
  have hF := fun (bn : Nat) (W : World) (h : IR W bn (Q : Int)) => dfloat_calls bn Q (a.e - b.e - kn) mode (a.neg != b.neg) (decide (R ≠ 0)) W h hq0 hq hb1 hb2
  have hsd : (sgnI (R : Int) != 0) = decide (R ≠ 0) := by
    unfold sgnI
    by_cases h : R = 0
    · rw [if_pos (by omega), decide_eq_false (by simpa using h)]; rfl
    · rw [if_neg (by omega), decide_eq_true h]; split <;> rfl
  obtain ⟨Fl, hFl⟩ : ∃ F, F = floF (a.neg != b.neg) Q (a.e - b.e - kn) (decide (R ≠ 0)) mode := ⟨_, rfl⟩
  rw [← hFl] at hF ⊢
  obtain ⟨rst, hrst⟩ : ∃ d, d = decide (R ≠ 0) := ⟨_, rfl⟩
  rw [← hrst] at hF hsd
  have HSg := fun (X : Nat) (W : World) (h : IR W X (R : Int)) => isign_calls X (R : Int) W h
  obtain ⟨sg0, hsg0⟩ : ∃ s, s = sgnI (R : Int) := ⟨_, rfl⟩
  rw [← hsg0] at hsd
  simp only [← hsg0] at HSg
  have HSg := Lib.hid HSg
  clear hsg0 hrst
  obtain ⟨A, c, rfl, hc, hcm, hW⟩ := hv
  obtain ⟨A2, c2, rfl, hc2, hcm2, hW2⟩ := hv2
  have hN1 : NR w (NV a.neg A (words a.m).length c a.e) a.neg a.m a.e := ⟨A, c, rfl, hc, hcm, hW⟩
  have hN2 : NR w (NV b.neg A2 (words b.m).length c2 b.e) b.neg b.m b.e := ⟨A2, c2, rfl, hc2, hcm2, hW2⟩
  have hVa := fun (W : World) (h : w.grownBy W none) => value_calls _ a.neg a.m a.e W (NR.grown0 hN1 h) hlx
  have hVb := fun (W : World) (h : w.grownBy W none) => value_calls _ b.neg b.m b.e W (NR.grown0 hN2 h) hly
  have hval := fun o1 o2 t => dvalids_calls (w.heap.size + 1 + 1) 2 _ (by decide) (valid_two (w := (w.alloc o1).alloc o2) (t := t) ho ho2 ((hN1.grown0 (grown_alloc _ _ _)).grown0 (grown_alloc _ _ _)) ((hN2.grown0 (grown_alloc _ _ _)).grown0 (grown_alloc _ _ _)) (by simp))
  unfold NV at hVa hVb ⊢
  have hz := lenZ a.m
  have hz2 := lenZ b.m
  rw [decide_eq_false hm] at hz
  rw [decide_eq_false hm2] at hz2
  have he := e_bound ho
  have he2 := e_bound ho2
  have hB1 := fun (bn : Nat) (W : World) (h : IR W bn (a.m : Int)) => ibits_calls bn (a.m : Int) W h (by rw [Int.natAbs_natCast]; omega)
  have hB2 := fun (bn : Nat) (W : World) (h : IR W bn (b.m : Int)) => ibits_calls bn (b.m : Int) W h (by rw [Int.natAbs_natCast]; omega)
  simp only [Int.natAbs_natCast] at hB1 hB2
  have hLs := fun (X : Nat) (W : World) (h : IR W X (a.m : Int)) => ilsh_calls X X kn (a.m : Int) W h.two h (by rw [Int.natAbs_natCast]; omega) (by omega)
  have hQR := fun (B X Y R' : Nat) (W : World) (h1 : Two W B) (h2 : Two W R') (h3 : B ≠ R') (h4 : IR W X ((a.m : Int) * 2 ^ kn)) (h5 : IR W Y (b.m : Int)) => iquorem_calls B X Y R' (a.m * 2 ^ kn) b.m W h1 h2 h3 (by rw [Int.natCast_mul, Int.natCast_pow]; exact h4) h5 hm2 hlq (Nat.le_trans hly (by decide))
  simp only [← hQ, ← hR] at hQR
  obtain ⟨xa, hxa⟩ : ∃ x, x = (Go.bitLen a.m : Int) := ⟨_, rfl⟩
  obtain ⟨xb, hxb⟩ : ∃ x, x = (Go.bitLen b.m : Int) := ⟨_, rfl⟩
  rw [← hxa] at hB1 hke
  rw [← hxb] at hB2 hke
  have hxr : 0 ≤ xa ∧ xa ≤ 65536 ∧ 0 ≤ xb ∧ xb ≤ 65536 := by omega
  obtain ⟨L, hL⟩ : ∃ L, L = (words a.m).length := ⟨_, rfl⟩
  obtain ⟨L2, hL2⟩ : ∃ L, L = (words b.m).length := ⟨_, rfl⟩
  simp only [← hL, ← hL2] at hval hVa hVb hz hz2 hc hc2 ⊢
  have HV := Lib.hid hval
  have HK := Lib.hid hK
  have HF := Lib.hid hF
  have HVa := Lib.hid hVa
  have HVb := Lib.hid hVb
  have HB1 := Lib.hid hB1
  have HB2 := Lib.hid hB2
  have HLs := Lib.hid hLs
  have HQR := Lib.hid hQR
  clear hval hK hF hVa hVb hB1 hB2 hLs hQR hFl hL hL2 hW hW2 hN1 hN2 hQ hR hb1 hb2 hkn hbl1 hbl2 hxa hxb hlx hly hlq hq ho ho2 hq0 hm hm2
  go_enter Tryz.func73, Tryz.ntmps73
  go_wp2_with fail
  refine (HV.out _ _ _).mono ?_
  rintro e1 w1 ⟨rfl, hg⟩
  obtain ⟨r0, r1, r2, hw1, hsz⟩ := box3 hg
  obtain ⟨x0, x1, x2⟩ := row3 r0
  obtain ⟨x3, x4, x5⟩ := row3 r1
  have HW1 := Lib.hid hw1
  clear r0 r1 r2 hg hw1
  go_wp2_with fail
  refine (HK.out _).mono ?_
  rintro e1 w2 ⟨rfl, hw2⟩
  obtain rfl := hw2.symm
  have K6 : Hid (∀ w' : World, w1.grownBy w' none → w'.cell? ⟨w.heap.size, 0, none⟩ = some (.bool a.neg) ∧ w'.cell? ⟨w.heap.size, 1, none⟩ = some (.slice A L c) ∧ w'.cell? ⟨w.heap.size, 2, none⟩ = some (.int .i64 a.e) ∧
      w'.cell? ⟨w.heap.size + 1, 0, none⟩ = some (.bool b.neg) ∧ w'.cell? ⟨w.heap.size + 1, 1, none⟩ = some (.slice A2 L2 c2) ∧ w'.cell? ⟨w.heap.size + 1, 2, none⟩ = some (.int .i64 b.e) ∧ w1.grownBy w' none) := fun w' h =>
    ⟨cell_ext h x0, cell_ext h x1, cell_ext h x2, cell_ext h x3, cell_ext h x4, cell_ext h x5, h⟩
  have G0 : Hid (∀ n, w1.grownBy (w1.drewN n) none) := fun n => ⟨rfl, rfl, rfl, Nat.le_refl _, fun _ _ _ => rfl⟩
  go_upto_region 7 with fail
  go_region_held3 (fun w' : World => w'.cell? ⟨w.heap.size, 0, none⟩ = some (.bool a.neg) ∧ w'.cell? ⟨w.heap.size, 1, none⟩ = some (.slice A L c) ∧ w'.cell? ⟨w.heap.size, 2, none⟩ = some (.int .i64 a.e) ∧
      w'.cell? ⟨w.heap.size + 1, 0, none⟩ = some (.bool b.neg) ∧ w'.cell? ⟨w.heap.size + 1, 1, none⟩ = some (.slice A2 L2 c2) ∧ w'.cell? ⟨w.heap.size + 1, 2, none⟩ = some (.int .i64 b.e) ∧ w1.grownBy w' none)
    (first
      | exact K6.out _ (G0.out _)
      | exact K6.out _ (G0.out 1)
      | (go_split_ands; exact K6.out _ (grown_trans (by assumption) hgl)))
    (first
      | (go_at_call_of 79 (Value.agg #[.bool a.neg, .slice A L c, .int .i64 a.e]); go_split_ands; refine (HVa.out _ (grown_trans HW1.out (by assumption))).mono ?_; rintro e1 w2 ⟨ba, rfl, hba, hIa, hga⟩; have hgl := grown_of_below hga none; have HIa := Lib.hid hIa; have hba2 := Nat.le_trans (show w1.grownBy _ none by assumption).size hba; clear hIa hga)
      | (go_at_call_of 79 (Value.agg #[.bool b.neg, .slice A2 L2 c2, .int .i64 b.e]); go_split_ands; refine (HVb.out _ (grown_trans HW1.out (by assumption))).mono ?_; rintro e1 w3 ⟨bb, rfl, hbb, hIb, hgb⟩; have hgl := grown_of_below hgb none; have HIb := Lib.hid hIb; have HIa3 := Lib.hid (HIa.out.grown0 hgl); have HG3 := Lib.hid (grown_trans (show w1.grownBy _ none by assumption) hgl); clear hIb))
  all_goals
    have hne : ba ≠ bb := by have := HIa.out.lt; omega
    have hbb2 : w1.heap.size ≤ bb := by have := HIa.out.lt; omega
    have hIa3 := HIa3.out
    have hIb3 := HIb.out
    have HA1 := Lib.hid (iabs_calls ba ba _ w3 hIa3.two hIa3)
    rw [show ((sg a.neg a.m).natAbs : Int) = (a.m : Int) by rw [sg_abs]] at HA1
    have HB3 : Hid (Below w1.heap.size w1 w3) := below_of_grown0 HG3.out
    have hs3 := HG3.out.size
    clear hIa3 hIb3 HG3 hgl
    go_wp2_with fail
    refine HA1.out.mono ?_
    rintro e1 w4 ⟨rfl, hI4, hg4⟩
    have hI4b := HIb.out.grown hg4 (Ne.symm hne) HIa3.out.two
    have HI4 := Lib.hid hI4
    have HB4 := Lib.hid (HB3.out.trans (below_of_grown hg4 hba2 HIa3.out.lt))
    have HA2 := Lib.hid (iabs_calls bb bb _ w4 hI4b.two hI4b)
    rw [show ((sg b.neg b.m).natAbs : Int) = (b.m : Int) by rw [sg_abs]] at HA2
    have HI4b := Lib.hid hI4b
    clear hI4 hg4 hI4b HB3
    go_wp2_with fail
    refine HA2.out.mono ?_
    rintro e1 w5 ⟨rfl, hI5, hg5⟩
    have hlt4 := HI4b.out.lt
    have HI5a := Lib.hid (HI4.out.grown hg5 hne HI4b.out.two)
    have HI5 := Lib.hid hI5
    have HB5 := Lib.hid (HB4.out.trans (below_of_grown hg5 hbb2 hlt4))
    clear hI5 hg5 HB4 HI4 HI4b
    go_wp2_with fail
    refine (HB1.out ba _ HI5a.out).mono ?_
    rintro e1 w8 ⟨rfl, hw8⟩
    obtain rfl := hw8.symm
    go_wp2_with fail
    refine (HB2.out bb _ HI5.out).mono ?_
    rintro e1 w8 ⟨rfl, hw8⟩
    obtain rfl := hw8.symm
    go_wp2_with fail
    refine (HLs.out ba _ HI5a.out).mono ?_
    rintro e1 w6 ⟨rfl, hI6, hg6⟩
    have HI6 := Lib.hid hI6
    have HI6b := Lib.hid (HI5.out.grown hg6 (Ne.symm hne) HI5a.out.two)
    have HB6 := Lib.hid (HB5.out.trans (below_of_grown hg6 hba2 HI5a.out.lt))
    have hs6 := HB6.out.size
    clear hI6 hg6 HB5 HI5 HI5a
    go_wp2_with fail
    have t7 := two_new' (w := w6.alloc (.cells #[.bool false, .slice none 0 0] 106)) (b := w6.heap.size + 1) 106 (by simp)
    refine (HQR.out w6.heap.size ba bb (w6.heap.size + 1) _ ((two_new w6 _).grown0 (grown_alloc _ _ none)) t7 (by omega) ((HI6.out.alloc _).alloc _) ((HI6b.out.alloc _).alloc _)).mono ?_
    rintro e1 w7 ⟨rfl, hIq, hIr, wm, hgm1, hgm2⟩
    have HB7 : Hid (Below w1.heap.size w1 w7) := by
      have h1 : Below w1.heap.size w1 ((w6.alloc (.cells #[.bool false, .slice none 0 0] 106)).alloc (.cells #[.bool false, .slice none 0 0] 106)) := (HB6.out.alloc hs6 _).alloc (by simp; omega) _
      have h2 := h1.trans (below_of_grown hgm1 (by omega) (by simp))
      exact h2.trans (below_of_grown hgm2 hs6 (by have := hgm1.size; simp at this; omega))
    obtain ⟨y0, y1, y2, y3, y4, y5, _⟩ := K6.out _ (grown_of_below HB7.out none)
    have HIq := Lib.hid hIq
    have HIr := Lib.hid hIr
    clear hIq hIr hgm1 hgm2 t7 HB6 HI6 HI6b HIa HIb HIa3
    have K7 : Hid (∀ w' : World, w7.grownBy w' none → w'.cell? ⟨w.heap.size, 0, none⟩ = some (.bool a.neg) ∧ w'.cell? ⟨w.heap.size, 1, none⟩ = some (.slice A L c) ∧ w'.cell? ⟨w.heap.size, 2, none⟩ = some (.int .i64 a.e) ∧
      w'.cell? ⟨w.heap.size + 1, 0, none⟩ = some (.bool b.neg) ∧ w'.cell? ⟨w.heap.size + 1, 1, none⟩ = some (.slice A2 L2 c2) ∧ w'.cell? ⟨w.heap.size + 1, 2, none⟩ = some (.int .i64 b.e) ∧ w7.grownBy w' none) := fun w' h =>
      ⟨cell_ext h y0, cell_ext h y1, cell_ext h y2, cell_ext h y3, cell_ext h y4, cell_ext h y5, h⟩
    have G7 : Hid (∀ n, w7.grownBy (w7.drewN n) none) := fun n => ⟨rfl, rfl, rfl, Nat.le_refl _, fun _ _ _ => rfl⟩
    have hwr1 : IntKind.i64.wrap (a.e - b.e) = a.e - b.e := wrap_in (by omega) (by omega)
    have hwr2 : IntKind.i64.wrap (a.e - b.e - (kn : Int)) = a.e - b.e - (kn : Int) := wrap_in (by omega) (by omega)
    clear x0 x1 x2 x3 x4 x5
    go_upto_region 13 with fail
    go_region_held3 (fun w' : World => w'.cell? ⟨w.heap.size, 0, none⟩ = some (.bool a.neg) ∧ w'.cell? ⟨w.heap.size, 1, none⟩ = some (.slice A L c) ∧ w'.cell? ⟨w.heap.size, 2, none⟩ = some (.int .i64 a.e) ∧
      w'.cell? ⟨w.heap.size + 1, 0, none⟩ = some (.bool b.neg) ∧ w'.cell? ⟨w.heap.size + 1, 1, none⟩ = some (.slice A2 L2 c2) ∧ w'.cell? ⟨w.heap.size + 1, 2, none⟩ = some (.int .i64 b.e) ∧ w7.grownBy w' none)
      (first
        | exact K7.out _ (G7.out _)
        | exact K7.out _ (G7.out 1)
        | assumption
        | (go_split_ands; exact K7.out _ (by assumption))
        | (go_split_ands; exact K7.out _ (grown_trans (by assumption) hgl)))
      (first
        | (go_at_call 109; go_split_ands; refine (HSg.out _ _ (HIr.out.grown0 (by assumption))).mono ?_; rintro e1 w8 ⟨rfl, hw8⟩; obtain rfl := hw8.symm)
        | (go_at_call 80; go_split_ands; refine (HF.out _ _ (HIq.out.grown0 (by assumption))).mono ?_; rintro e1 w9 ⟨rfl, hB9⟩; have hgl := grown_of_below hB9 none; have HG9 := Lib.hid (grown_trans (show w7.grownBy _ none by assumption) hgl); clear hB9))
    all_goals
      have hBB : Hid (Below w.heap.size w w9) := by
        have h1 : Below w.heap.size w w1 := below_of_grown0 HW1.out
        have h1s := h1.size
        have h7s := HB7.out.size
        exact (h1.trans (HB7.out.mono h1s)).trans ((below_of_grown0 HG9.out).mono (by omega))
      go_wp2
      go_ret2
      exact ⟨rfl, hBB.out⟩
end Go.Proofs.YtjbdadhggejoiaaGreatDoor

namespace Go.Proofs.YtjbdadhggejoiaaGreatDoor
open Go.RowKit
set_option maxRecDepth 100000

/-- an exact number: a whole number times a power of two -/
structure Ex where
  z : Int
  e : Int
instance : DecidableEq Ex := fun ⟨z, e⟩ ⟨z', e'⟩ => if h : z = z' ∧ e = e' then isTrue (by obtain ⟨rfl, rfl⟩ := h; rfl) else isFalse (fun k => h (by cases k; exact ⟨rfl, rfl⟩))
def EV (b : Nat) (e : Int) : Value := .agg #[.pointer (some ⟨b, 0, none⟩), .int .i64 e]
def ER (w : World) (v : Value) (x : Ex) : Prop := ∃ b, v = EV b x.e ∧ IR w b x.z
theorem ER.grown0 {w w' : World} {v : Value} {x : Ex} (h : ER w v x) (hg : w.grownBy w' none) : ER w' v x := by
  obtain ⟨b, rfl, h⟩ := h
  exact ⟨b, rfl, h.grown0 hg⟩
/-- what a call leaves that makes an exact number -/
def EDone (w : World) (x : Ex) (en : Ending) (w' : World) : Prop := ∃ v, en = .returned v ∧ ER w' v x ∧ Below w.heap.size w w'
def Ex.sm (x : Ex) : Prop := x.z.natAbs < 4294967296 ^ 65536 ∧ -16777216 ≤ x.e ∧ x.e ≤ 16777216
theorem Ex.sm.len {x : Ex} (h : x.sm) : (words x.z.natAbs).length ≤ 65536 := words_len_lt h.1
theorem row2 {w : World} {b : Nat} {x y : Value} {t : TypeId} (h : w.heap[b]? = some (.cells #[x, y] t (0, 0))) : w.cell? ⟨b, 0, none⟩ = some x ∧ w.cell? ⟨b, 1, none⟩ = some y :=
  ⟨(row_cells h 0).1, (row_cells h 1).1⟩
theorem IR.grownR {w w' : World} {b r : Nat} {z : Int} (h : IR w b z) (hg : w.grownBy w' (some r)) (hb : b ≠ r) (h2 : Rec w r) : IR w' b z := by
  have hlt := h.lt
  obtain ⟨A, c, t, h, h1, h3, h4⟩ := h
  exact ⟨A, c, t, (hg.block b hlt (fun e => hb (Option.some.inj e))).trans h, h1, h3, h4.grownR (Nat.le_refl _) hg h2⟩
/-- a block of two cells that holds an exact number -/
def Duo (w : World) (r : Nat) : Prop := ∃ b e t, w.heap[r]? = some (.cells #[.pointer b, .int .i64 e] t (0, 0))
theorem Duo.grown {w w' : World} {b : Nat} {r : Option Nat} (h : Duo w b) (hg : w.grownBy w' r) (hr : r ≠ some b) : Duo w' b := by
  obtain ⟨x, A, t, h⟩ := h
  exact ⟨x, A, t, (hg.block b (Array.getElem?_eq_some_iff.1 h).1 (fun e => hr e.symm)).trans h⟩
theorem Duo.open {w : World} {b : Nat} (h : Duo w b) : ∃ x e, w.cell? ⟨b, 0, none⟩ = some (.pointer x) ∧ w.cell? ⟨b, 1, none⟩ = some (.int .i64 e) ∧ w.frozen? ⟨b, 0, none⟩ = false ∧ w.frozen? ⟨b, 1, none⟩ = false := by
  obtain ⟨x, e, t, h⟩ := h
  obtain ⟨h1, h2⟩ := row2 h
  exact ⟨x, e, h1, h2, (row_cells h 0).2, (row_cells h 1).2⟩
theorem Duo.rec' {w : World} {b : Nat} (h : Duo w b) : Rec w b := by
  obtain ⟨x, e, t, h⟩ := h
  refine ⟨_, t, h, fun i u hu n => ?_⟩
  match i with
  | 0 => simp at hu; subst hu; simp
  | 1 => simp at hu; subst hu; simp
  | i + 2 => simp at hu
theorem Duo.set {w : World} {b : Nat} (h : Duo w b) (x : Option Addr) (e : Int) :
    Duo ((w.setCell ⟨b, 0, none⟩ (.pointer x)).setCell ⟨b, 1, none⟩ (.int .i64 e)) b ∧ w.grownBy ((w.setCell ⟨b, 0, none⟩ (.pointer x)).setCell ⟨b, 1, none⟩ (.int .i64 e)) (some b) := by
  obtain ⟨x0, e0, t, h⟩ := h
  have h1 := heap_setCell_same w b 0 _ t (.pointer x) h
  have h2 := heap_setCell_same _ b 1 _ t (.int .i64 e) h1
  exact ⟨⟨x, e, t, h2⟩, grown_trans grown_setCell grown_setCell⟩
/-- the world that a return leaves that stores an exact number into its result -/
theorem EDone.store {w w5 : World} {r b : Nat} {x : Ex} (h2 : Duo w5 r) (hI : IR w5 b x.z) (hne : b ≠ r) (hb : Below w.heap.size w w5) (hr : w.heap.size ≤ r) :
    EDone w x (.returned (.agg #[.pointer (some ⟨b, 0, none⟩), .int .i64 x.e])) ((w5.setCell ⟨r, 0, none⟩ (.pointer (some ⟨b, 0, none⟩))).setCell ⟨r, 1, none⟩ (.int .i64 x.e)) :=
  ⟨_, rfl, ⟨b, rfl, hI.grownR (h2.set (some ⟨b, 0, none⟩) x.e).2 hne h2.rec'⟩, (hb.setCell (by exact hr) _).setCell (by exact hr) _⟩

set_option maxHeartbeats 4000000 in
theorem dexof_calls (v : Value) (a : Dy) (w : World) (hv : DR w v a) (ho : a.ok) :
    Calls Tryz.prog 97 #[v] w fun en w' => EDone w ⟨a.z, a.e⟩ en w' := by
  obtain ⟨A, c, rfl, hc, hcm, hW⟩ := hv
  have hN1 : NR w (NV a.neg A (words a.m).length c a.e) a.neg a.m a.e := ⟨A, c, rfl, hc, hcm, hW⟩
  have hVa := fun (W : World) (h : w.grownBy W none) => value_calls _ a.neg a.m a.e W (NR.grown0 hN1 h) (Nat.le_trans ho.len (by decide))
  unfold NV at hVa ⊢
  obtain ⟨L, hL⟩ : ∃ L, L = (words a.m).length := ⟨_, rfl⟩
  simp only [← hL] at hVa hc ⊢
  have HVa := Lib.hid hVa
  clear hVa hN1 hW hL
  go_enter Tryz.func97, Tryz.ntmps97
  go_upto_region 1 with fail
  obtain ⟨w2, hw2⟩ : ∃ w2, w2 = (w.alloc (.cells #[.bool a.neg, .slice A L c, .int .i64 a.e] 74)).alloc (.cells #[.pointer none, .int .i64 0] 120) := ⟨_, rfl⟩
  have r0 : w2.heap[w.heap.size]? = some (.cells #[.bool a.neg, .slice A L c, .int .i64 a.e] 74 (0, 0)) := by rw [hw2]; exact heap_old (heap_at rfl)
  have r1 : w2.heap[w.heap.size + 1]? = some (.cells #[.pointer none, .int .i64 0] 120 (0, 0)) := by rw [hw2]; exact heap_at (by simp)
  have hg2 : w.grownBy w2 none := by rw [hw2]; exact grown_trans (grown_alloc _ _ _) (grown_alloc _ _ _)
  have hsz : w.heap.size + 2 ≤ w2.heap.size := by rw [hw2]; simp
  rw [← hw2]
  obtain ⟨x0, x1, x2⟩ := row3 r0
  have T0 : Hid (Duo w2 (w.heap.size + 1)) := ⟨_, _, _, r1⟩
  have HW1 := Lib.hid hg2
  have HVb : Hid (∀ W, w2.grownBy W (some (w.heap.size + 1)) → Calls Tryz.prog 79 #[.agg #[.bool a.neg, .slice A L c, .int .i64 a.e]] W fun e w' => New W (sg a.neg a.m) e w') := fun W h =>
    HVa.out W (grown_of_below ((below_of_grown0 hg2).trans (below_of_grown h (by omega) (by omega))) none)
  clear hw2 r0 r1 hg2 HVa
  have K6 : Hid (∀ w' : World, w2.grownBy w' (some (w.heap.size + 1)) → Duo w' (w.heap.size + 1) → w'.cell? ⟨w.heap.size, 0, none⟩ = some (.bool a.neg) ∧ w'.cell? ⟨w.heap.size, 1, none⟩ = some (.slice A L c) ∧ w'.cell? ⟨w.heap.size, 2, none⟩ = some (.int .i64 a.e) ∧
      w2.grownBy w' (some (w.heap.size + 1)) ∧ Duo w' (w.heap.size + 1)) := fun w' h h3 =>
    ⟨cell_grown h (by omega) (by omega) x0, cell_grown h (by omega) (by omega) x1, cell_grown h (by omega) (by omega) x2, h, h3⟩
  have G0 : Hid (∀ n, w2.grownBy (w2.drewN n) (some (w.heap.size + 1))) := fun n => ⟨rfl, rfl, rfl, Nat.le_refl _, fun _ _ _ => rfl⟩
  go_region_held3 (fun w' : World => w'.cell? ⟨w.heap.size, 0, none⟩ = some (.bool a.neg) ∧ w'.cell? ⟨w.heap.size, 1, none⟩ = some (.slice A L c) ∧ w'.cell? ⟨w.heap.size, 2, none⟩ = some (.int .i64 a.e) ∧ w2.grownBy w' (some (w.heap.size + 1)) ∧ Duo w' (w.heap.size + 1))
    (first
      | exact K6.out _ (G0.out _) T0.out
      | exact K6.out _ (G0.out 1) T0.out
      | exact K6.out _ (grown_trans hG5 (hT5.set _ _).2) (hT5.set _ _).1
      | exact K6.out _ hG5 hT5)
    ((go_at_call 79; go_split_ands; refine (HVb.out _ (by assumption)).mono ?_; rintro e1 w3 ⟨ba, rfl, hba, hIa, hga⟩; have hG5 := grown_trans (by assumption) (grown_of_below hga (some (w.heap.size + 1))); have hT5 := Duo.grown (by assumption) (grown_of_below hga none) (by simp); obtain ⟨q1, q2, y0, y1, y2, y3⟩ := hT5.open; have HIa := Lib.hid hIa; have hba2 := Nat.le_trans (show w2.grownBy _ (some (w.heap.size + 1)) by assumption).size hba; clear hIa hga))
  all_goals
    have HB5 : Hid (Below w.heap.size w w3) := (below_of_grown0 HW1.out).trans (below_of_grown hG5 (by omega) (by omega))
    have HD := Lib.hid (EDone.store (w := w) (x := ⟨a.z, a.e⟩) (r := w.heap.size + 1) hT5 HIa.out (by omega) HB5.out (by omega))
    go_wp2
    refine bodyPost_ret (v := .agg #[.pointer (some ⟨ba, 0, none⟩), .int .i64 a.e]) ?_ rfl HD.out
    simp [results, Tryz.results97, go_sem, *]

set_option maxHeartbeats 4000000 in
theorem extimes_calls (v v2 : Value) (x y : Ex) (w : World) (hv : ER w v x) (hx : x.sm) (hv2 : ER w v2 y) (hy : y.sm) :
    Calls Tryz.prog 131 #[v, v2] w fun en w' => EDone w ⟨x.z * y.z, x.e + y.e⟩ en w' := by
  obtain ⟨bx, rfl, hIx⟩ := hv
  obtain ⟨by', rfl, hIy⟩ := hv2
  unfold EV
  have hlx := hx.len
  have hly := hy.len
  have hex := hx.2
  have hey := hy.2
  have hbx := hIx.lt
  have hby := hIy.lt
  have HX := Lib.hid hIx
  have HY := Lib.hid hIy
  clear hIx hIy hx hy
  go_enter Tryz.func131, Tryz.ntmps131
  go_upto_region 1 with fail
  obtain ⟨w3, hw3⟩ : ∃ w3, w3 = ((w.alloc (.cells #[.pointer (some ⟨bx, 0, none⟩), .int .i64 x.e] 120)).alloc (.cells #[.pointer (some ⟨by', 0, none⟩), .int .i64 y.e] 120)).alloc (.cells #[.pointer none, .int .i64 0] 120) := ⟨_, rfl⟩
  have r0 : w3.heap[w.heap.size]? = some (.cells #[.pointer (some ⟨bx, 0, none⟩), .int .i64 x.e] 120 (0, 0)) := by rw [hw3]; exact heap_old (heap_old (heap_at rfl))
  have r1 : w3.heap[w.heap.size + 1]? = some (.cells #[.pointer (some ⟨by', 0, none⟩), .int .i64 y.e] 120 (0, 0)) := by rw [hw3]; exact heap_old (heap_at (by simp))
  have r2 : w3.heap[w.heap.size + 1 + 1]? = some (.cells #[.pointer none, .int .i64 0] 120 (0, 0)) := by rw [hw3]; exact heap_at (by simp)
  have hg3 : w.grownBy w3 none := by rw [hw3]; exact grown_trans (grown_trans (grown_alloc _ _ _) (grown_alloc _ _ _)) (grown_alloc _ _ _)
  have hsz : w.heap.size + 3 ≤ w3.heap.size := by rw [hw3]; simp
  rw [← hw3]
  obtain ⟨x0, x1⟩ := row2 r0
  obtain ⟨x2, x3⟩ := row2 r1
  have T0 : Hid (Duo w3 (w.heap.size + 1 + 1)) := ⟨_, _, _, r2⟩
  have HW1 := Lib.hid hg3
  have HX3 := Lib.hid (HX.out.grown0 hg3)
  have HY3 := Lib.hid (HY.out.grown0 hg3)
  have K6 : Hid (∀ w' : World, w3.grownBy w' (some (w.heap.size + 1 + 1)) → Duo w' (w.heap.size + 1 + 1) → w'.cell? ⟨w.heap.size, 0, none⟩ = some (.pointer (some ⟨bx, 0, none⟩)) ∧ w'.cell? ⟨w.heap.size, 1, none⟩ = some (.int .i64 x.e) ∧ w'.cell? ⟨w.heap.size + 1, 0, none⟩ = some (.pointer (some ⟨by', 0, none⟩)) ∧ w'.cell? ⟨w.heap.size + 1, 1, none⟩ = some (.int .i64 y.e) ∧
      w3.grownBy w' (some (w.heap.size + 1 + 1)) ∧ Duo w' (w.heap.size + 1 + 1)) := fun w' h h3 =>
    ⟨cell_grown h (by omega) (by omega) x0, cell_grown h (by omega) (by omega) x1, cell_grown h (by omega) (by omega) x2, cell_grown h (by omega) (by omega) x3, h, h3⟩
  have G0 : Hid (∀ n, w3.grownBy (w3.drewN n) (some (w.heap.size + 1 + 1))) := fun n => ⟨rfl, rfl, rfl, Nat.le_refl _, fun _ _ _ => rfl⟩
  have hwr : IntKind.i64.wrap (x.e + y.e) = x.e + y.e := wrap_in (by omega) (by omega)
  have hl1 : (words x.z.natAbs).length ≤ 1073741824 := by omega
  have hl2 : (words y.z.natAbs).length ≤ 1073741824 := by omega
  have hrlt : w.heap.size + 1 + 1 < w3.heap.size := by omega
  have hbx3 : bx ≠ w3.heap.size := by omega
  have hby3 : by' ≠ w3.heap.size := by omega
  clear hw3 r0 r1 r2 hg3
  go_region_held3 (fun w' : World => w'.cell? ⟨w.heap.size, 0, none⟩ = some (.pointer (some ⟨bx, 0, none⟩)) ∧ w'.cell? ⟨w.heap.size, 1, none⟩ = some (.int .i64 x.e) ∧ w'.cell? ⟨w.heap.size + 1, 0, none⟩ = some (.pointer (some ⟨by', 0, none⟩)) ∧ w'.cell? ⟨w.heap.size + 1, 1, none⟩ = some (.int .i64 y.e) ∧
      w3.grownBy w' (some (w.heap.size + 1 + 1)) ∧ Duo w' (w.heap.size + 1 + 1))
    (first
      | exact K6.out _ (G0.out _) T0.out
      | exact K6.out _ (G0.out 1) T0.out
      | exact K6.out _ (grown_trans (G0.out 1) (grown_alloc _ _ _)) (Duo.grown T0.out (grown_alloc _ _ none) (by simp))
      | (go_split_ands; exact K6.out _ (grown_trans (by assumption) (grown_alloc _ _ _)) (Duo.grown (by assumption) (grown_alloc _ _ none) (by simp)))
      | exact K6.out _ (grown_trans hG5 (hT5.set _ _).2) (hT5.set _ _).1
      | exact K6.out _ hG5 hT5)
    ((go_at_call 84; go_split_ands; refine (imul_calls w3.heap.size bx by' x.z y.z _ (two_new w3 106).drew (HX3.out.alloc _).drew (HY3.out.alloc _).drew hl1 hl2 hbx3 hby3).mono ?_; rintro e1 w4 ⟨rfl, hIm, hgm⟩; have hG5 := grown_skip (w := w3) (by assumption) hgm (Nat.le_refl _); have hT5 := Duo.grown (b := w.heap.size + 1 + 1) (by assumption) hgm (by intro e; injection e with e; omega); obtain ⟨q1, q2, y0, y1, y2, y3⟩ := hT5.open; have HIm := Lib.hid hIm; clear hIm hgm))
  all_goals
    have HB5 : Hid (Below w.heap.size w w4) := (below_of_grown0 HW1.out).trans (below_of_grown hG5 (by omega) hrlt)
    have HD := Lib.hid (EDone.store (w := w) (x := ⟨x.z * y.z, x.e + y.e⟩) (r := w.heap.size + 1 + 1) hT5 HIm.out (by omega) HB5.out (by omega))
    go_wp2
    refine bodyPost_ret (v := .agg #[.pointer (some ⟨w3.heap.size, 0, none⟩), .int .i64 (x.e + y.e)]) ?_ rfl HD.out
    simp [results, Tryz.results131, go_sem, *]
end Go.Proofs.YtjbdadhggejoiaaGreatDoor

namespace Go.Proofs.YtjbdadhggejoiaaGreatDoor
open Go.RowKit
set_option maxRecDepth 100000

def explus (x y : Ex) : Ex := if x.z = 0 then y else if y.z = 0 then x else ⟨x.z * 2 ^ (x.e - min x.e y.e).toNat + y.z * 2 ^ (y.e - min x.e y.e).toNat, min x.e y.e⟩

set_option maxHeartbeats 4000000 in
theorem explus_calls (v v2 : Value) (x y : Ex) (w : World) (hv : ER w v x) (hx : x.sm) (hv2 : ER w v2 y) (hy : y.sm) :
    Calls Tryz.prog 128 #[v, v2] w fun en w' => EDone w (explus x y) en w' := by
  obtain ⟨bx, rfl, hIx⟩ := hv
  obtain ⟨by', rfl, hIy⟩ := hv2
  unfold EV
  have hlx := hx.len
  have hly := hy.len
  have hex := hx.2
  have hey := hy.2
  have hbx := hIx.lt
  have hby := hIy.lt
  have HX := Lib.hid hIx
  have HY := Lib.hid hIy
  have HSx := fun (W : World) (h : w.grownBy W none) => isign_calls bx x.z W (hIx.grown0 h)
  have HSy := fun (W : World) (h : w.grownBy W none) => isign_calls by' y.z W (hIy.grown0 h)
  have hz1 : (sgnI x.z == 0) = decide (x.z = 0) := by
    unfold sgnI
    by_cases h : x.z = 0
    · rw [if_pos h, decide_eq_true h]; rfl
    · rw [if_neg h, decide_eq_false h]; split <;> rfl
  have hz2 : (sgnI y.z == 0) = decide (y.z = 0) := by
    unfold sgnI
    by_cases h : y.z = 0
    · rw [if_pos h, decide_eq_true h]; rfl
    · rw [if_neg h, decide_eq_false h]; split <;> rfl
  obtain ⟨s1, hs1⟩ : ∃ s, s = sgnI x.z := ⟨_, rfl⟩
  obtain ⟨s2, hs2⟩ : ∃ s, s = sgnI y.z := ⟨_, rfl⟩
  rw [← hs1] at hz1
  rw [← hs2] at hz2
  simp only [← hs1] at HSx
  simp only [← hs2] at HSy
  have HSx := Lib.hid HSx
  have HSy := Lib.hid HSy
  obtain ⟨R, hR⟩ : ∃ R, R = explus x y := ⟨_, rfl⟩
  rw [← hR]
  have HR := Lib.hid hR
  clear hIx hIy hx hy hs1 hs2 hR
  go_enter Tryz.func128, Tryz.ntmps128
  go_upto_region 1 with fail
  obtain ⟨w3, hw3⟩ : ∃ w3, w3 = ((w.alloc (.cells #[.pointer (some ⟨bx, 0, none⟩), .int .i64 x.e] 120)).alloc (.cells #[.pointer (some ⟨by', 0, none⟩), .int .i64 y.e] 120)).alloc (.cells #[.pointer none, .int .i64 0] 120) := ⟨_, rfl⟩
  have r0 : w3.heap[w.heap.size]? = some (.cells #[.pointer (some ⟨bx, 0, none⟩), .int .i64 x.e] 120 (0, 0)) := by rw [hw3]; exact heap_old (heap_old (heap_at rfl))
  have r1 : w3.heap[w.heap.size + 1]? = some (.cells #[.pointer (some ⟨by', 0, none⟩), .int .i64 y.e] 120 (0, 0)) := by rw [hw3]; exact heap_old (heap_at (by simp))
  have r2 : w3.heap[w.heap.size + 1 + 1]? = some (.cells #[.pointer none, .int .i64 0] 120 (0, 0)) := by rw [hw3]; exact heap_at (by simp)
  have hg3 : w.grownBy w3 none := by rw [hw3]; exact grown_trans (grown_trans (grown_alloc _ _ _) (grown_alloc _ _ _)) (grown_alloc _ _ _)
  have hsz : w.heap.size + 3 ≤ w3.heap.size := by rw [hw3]; simp
  rw [← hw3]
  obtain ⟨x0, x1⟩ := row2 r0
  obtain ⟨x2, x3⟩ := row2 r1
  have T0 : Duo w3 (w.heap.size + 1 + 1) := ⟨_, _, _, r2⟩
  obtain ⟨q1, q2, y0, y1, y2, y3⟩ := T0.open
  have T0 := Lib.hid T0
  have HW1 := Lib.hid hg3
  have HX3 := Lib.hid (HX.out.grown0 hg3)
  have HY3 := Lib.hid (HY.out.grown0 hg3)
  have hlt0 : w.heap.size < w3.heap.size := by omega
  have hlt1 : w.heap.size + 1 < w3.heap.size := by omega
  have hlt2 : w.heap.size + 1 + 1 < w3.heap.size := by omega
  clear hw3 r0 r1 r2 hg3
  go_wp2_with fail
  refine (HSx.out _ HW1.out).mono ?_
  rintro e1 w8 ⟨rfl, hw8⟩
  obtain rfl := hw8.symm
  by_cases hx0 : x.z = 0
  · rw [decide_eq_true hx0] at hz1
    have hRy : R = y := by rw [HR.out]; unfold explus; rw [if_pos hx0]
    subst hRy
    clear HR
    have HD := Lib.hid (EDone.store (w := w) (x := R) (r := w.heap.size + 1 + 1) T0.out HY3.out (by omega) (below_of_grown0 HW1.out) (by omega))
    clear hx0
    go_wp2
    refine bodyPost_ret (v := .agg #[.pointer (some ⟨by', 0, none⟩), .int .i64 R.e]) ?_ rfl HD.out
    simp [results, Tryz.results128, go_sem, *]
  · rw [decide_eq_false hx0] at hz1
    go_wp2_with fail
    refine (HSy.out _ HW1.out).mono ?_
    rintro e1 w8 ⟨rfl, hw8⟩
    obtain rfl := hw8.symm
    by_cases hy0 : y.z = 0
    · rw [decide_eq_true hy0] at hz2
      have hRx : R = x := by rw [HR.out]; unfold explus; rw [if_neg hx0, if_pos hy0]
      subst hRx
      clear HR hx0
      have HD := Lib.hid (EDone.store (w := w) (x := R) (r := w.heap.size + 1 + 1) T0.out HX3.out (by omega) (below_of_grown0 HW1.out) (by omega))
      clear hy0
      go_wp2
      refine bodyPost_ret (v := .agg #[.pointer (some ⟨bx, 0, none⟩), .int .i64 R.e]) ?_ rfl HD.out
      simp [results, Tryz.results128, go_sem, *]
    · rw [decide_eq_false hy0] at hz2
      obtain ⟨E, hE⟩ : ∃ E, E = min x.e y.e := ⟨_, rfl⟩
      obtain ⟨k1, hk1⟩ : ∃ k, k = (x.e - E).toNat := ⟨_, rfl⟩
      obtain ⟨k2, hk2⟩ : ∃ k, k = (y.e - E).toNat := ⟨_, rfl⟩
      have hRR : R = ⟨x.z * 2 ^ k1 + y.z * 2 ^ k2, E⟩ := by rw [HR.out]; unfold explus; rw [if_neg hx0, if_neg hy0, ← hE, ← hk1, ← hk2]
      subst hRR
      have hk1e : x.e - E = (k1 : Int) := by omega
      have hk2e : y.e - E = (k2 : Int) := by omega
      have hEe : min x.e y.e = E := hE.symm
      have hb1 : k1 ≤ 33554432 := by omega
      have hb2 : k2 ≤ 33554432 := by omega
      clear hE hk1 hk2 HR hx0 hy0
      have K5 : Hid (∀ w' : World, w3.grownBy w' none → w'.cell? ⟨w.heap.size, 0, none⟩ = some (.pointer (some ⟨bx, 0, none⟩)) ∧ w'.cell? ⟨w.heap.size, 1, none⟩ = some (.int .i64 x.e) ∧ w'.cell? ⟨w.heap.size + 1, 0, none⟩ = some (.pointer (some ⟨by', 0, none⟩)) ∧ w'.cell? ⟨w.heap.size + 1, 1, none⟩ = some (.int .i64 y.e) ∧ Duo w' (w.heap.size + 1 + 1)) := fun w' h =>
        ⟨cell_ext h x0, cell_ext h x1, cell_ext h x2, cell_ext h x3, T0.out.grown h (by simp)⟩
      go_wp2_with fail
      refine (ilsh_calls _ _ k1 x.z _ (two_new w3 _) (HX3.out.grown0 (grown_alloc _ _ _)) (by omega) (by omega)).mono ?_
      rintro e1 w5 ⟨rfl, hIa, hga⟩
      have hg5 : w3.grownBy w5 none := grown_of_below (((Below.refl _ w3).alloc (Nat.le_refl _) _).trans (below_of_grown hga (Nat.le_refl _) (by simp))) none
      have hs5 : w3.heap.size < w5.heap.size := by have := hga.size; simp at this; omega
      obtain ⟨xa, xb, xc, xd, hD5⟩ := K5.out w5 hg5
      have HA := Lib.hid hIa
      have HG5 := Lib.hid hg5
      have HY5 := Lib.hid (HY3.out.grown0 hg5)
      have hlt00 : w.heap.size < w5.heap.size := by omega
      have hlt11 : w.heap.size + 1 < w5.heap.size := by omega
      have hlt22 : w.heap.size + 1 + 1 < w5.heap.size := by omega
      clear x0 x1 x2 x3 y0 y1 y2 y3 hIa hga hg5 hD5
      go_wp2_with fail
      refine (ilsh_calls _ _ k2 y.z _ (two_new w5 _) (HY5.out.grown0 (grown_alloc _ _ _)) (by omega) (by omega)).mono ?_
      rintro e1 w6 ⟨rfl, hIb, hga⟩
      have hg6 : w5.grownBy w6 none := grown_of_below (((Below.refl _ w5).alloc (Nat.le_refl _) _).trans (below_of_grown hga (Nat.le_refl _) (by simp))) none
      have hs6 : w5.heap.size < w6.heap.size := by have := hga.size; simp at this; omega
      have hIa := HA.out.grown0 hg6
      obtain ⟨xa, xb, xc, xd, hD6⟩ := K5.out w6 (grown_trans HG5.out hg6)
      have hlz1 : (words (x.z * 2 ^ k1).natAbs).length ≤ 536870912 := by
        rw [abs_mul2]
        have := @words_len_mul x.z.natAbs k1
        omega
      have hlz2 : (words (y.z * 2 ^ k2).natAbs).length ≤ 536870912 := by
        rw [abs_mul2]
        have := @words_len_mul y.z.natAbs k2
        omega
      have HC := Lib.hid (iadd_calls w3.heap.size w3.heap.size w5.heap.size (x.z * 2 ^ k1) (y.z * 2 ^ k2) w6 hIa.two hIa hIb hlz1 hlz2)
      have HB6 := Lib.hid ((below_of_grown0 HW1.out).trans ((below_of_grown0 (grown_trans HG5.out hg6)).mono (by omega)))
      clear hIa hIb hga hg6 hlz1 hlz2 K5 HA HY5
      go_wp2_with fail
      refine HC.out.mono ?_
      rintro e1 w7 ⟨rfl, hIs, hg7⟩
      have hD7 := hD6.grown hg7 (by simp; omega)
      obtain ⟨q3, q4, z0, z1, z2, z3⟩ := hD7.open
      have HB7 := HB6.out.trans (below_of_grown hg7 (by omega) (by omega))
      have HD := Lib.hid (EDone.store (w := w) (x := ⟨x.z * 2 ^ k1 + y.z * 2 ^ k2, E⟩) (r := w.heap.size + 1 + 1) hD7 hIs (by omega) HB7 (by omega))
      clear hIs hg7 hD7 HB7 hD6 HB6 HC xa xb xc xd
      go_wp2
      refine bodyPost_ret (v := .agg #[.pointer (some ⟨w3.heap.size, 0, none⟩), .int .i64 E]) ?_ rfl HD.out
      simp [results, Tryz.results128, go_sem, *]
end Go.Proofs.YtjbdadhggejoiaaGreatDoor

namespace Go.Proofs.YtjbdadhggejoiaaGreatDoor
open Go.RowKit
set_option maxRecDepth 100000

def exminus (x y : Ex) : Ex := explus x ⟨-y.z, y.e⟩

theorem EDone.put {w w5 : World} {r : Nat} {x : Ex} {v : Value} (h2 : Duo w5 r) (hv : ER w5 v x) (hne : ∀ b, v = EV b x.e → b ≠ r) (hb : Below w.heap.size w w5) (hr : w.heap.size ≤ r) :
    ∃ b, v = .agg #[.pointer (some ⟨b, 0, none⟩), .int .i64 x.e] ∧ Hid (EDone w x (.returned v) ((w5.setCell ⟨r, 0, none⟩ (.pointer (some ⟨b, 0, none⟩))).setCell ⟨r, 1, none⟩ (.int .i64 x.e))) := by
  obtain ⟨b, rfl, hI⟩ := hv
  exact ⟨b, rfl, EDone.store h2 hI (hne b rfl) hb hr⟩
theorem ER.apart {w' : World} {v : Value} {x : Ex} (h : ER w' v x) : ∃ b, v = .agg #[.pointer (some ⟨b, 0, none⟩), .int .i64 x.e] ∧ IR w' b x.z := h

theorem duo_ne {w : World} {b r : Nat} {z : Int} (h : Duo w r) (hI : IR w b z) : b ≠ r := fun e => by
  obtain ⟨x, y, t, h1⟩ := h
  obtain ⟨A, c, t2, h2, _⟩ := hI
  rw [e, h1] at h2
  simp at h2

set_option maxHeartbeats 4000000 in
theorem exminus_calls (v v2 : Value) (x y : Ex) (w : World) (hv : ER w v x) (hx : x.sm) (hv2 : ER w v2 y) (hy : y.sm) :
    Calls Tryz.prog 130 #[v, v2] w fun en w' => EDone w (exminus x y) en w' := by
  obtain ⟨bx, rfl, hIx⟩ := hv
  obtain ⟨by', rfl, hIy⟩ := hv2
  unfold EV
  obtain ⟨R, hR⟩ : ∃ R, R = exminus x y := ⟨_, rfl⟩
  rw [← hR]
  unfold exminus at hR
  have hsy : (⟨-y.z, y.e⟩ : Ex).sm := ⟨by rw [Int.natAbs_neg]; exact hy.1, hy.2⟩
  have hex := hx.2
  have hey := hy.2
  have hbx := hIx.lt
  have hby := hIy.lt
  have HX := Lib.hid hIx
  have HY := Lib.hid hIy
  clear hIx hIy hy
  go_enter Tryz.func130, Tryz.ntmps130
  go_upto_region 1 with fail
  obtain ⟨w3, hw3⟩ : ∃ w3, w3 = ((w.alloc (.cells #[.pointer (some ⟨bx, 0, none⟩), .int .i64 x.e] 120)).alloc (.cells #[.pointer (some ⟨by', 0, none⟩), .int .i64 y.e] 120)).alloc (.cells #[.pointer none, .int .i64 0] 120) := ⟨_, rfl⟩
  have r0 : w3.heap[w.heap.size]? = some (.cells #[.pointer (some ⟨bx, 0, none⟩), .int .i64 x.e] 120 (0, 0)) := by rw [hw3]; exact heap_old (heap_old (heap_at rfl))
  have r1 : w3.heap[w.heap.size + 1]? = some (.cells #[.pointer (some ⟨by', 0, none⟩), .int .i64 y.e] 120 (0, 0)) := by rw [hw3]; exact heap_old (heap_at (by simp))
  have r2 : w3.heap[w.heap.size + 1 + 1]? = some (.cells #[.pointer none, .int .i64 0] 120 (0, 0)) := by rw [hw3]; exact heap_at (by simp)
  have hg3 : w.grownBy w3 none := by rw [hw3]; exact grown_trans (grown_trans (grown_alloc _ _ _) (grown_alloc _ _ _)) (grown_alloc _ _ _)
  have hsz : w.heap.size + 3 ≤ w3.heap.size := by rw [hw3]; simp
  rw [← hw3]
  obtain ⟨x0, x1⟩ := row2 r0
  obtain ⟨x2, x3⟩ := row2 r1
  have T0 : Hid (Duo w3 (w.heap.size + 1 + 1)) := ⟨_, _, _, r2⟩
  have HW1 := Lib.hid hg3
  have HX3 := Lib.hid (HX.out.grown0 hg3)
  have HY3 := Lib.hid (HY.out.grown0 hg3)
  have K6 : Hid (∀ w' : World, w3.grownBy w' (some (w.heap.size + 1 + 1)) → Duo w' (w.heap.size + 1 + 1) → w'.cell? ⟨w.heap.size, 0, none⟩ = some (.pointer (some ⟨bx, 0, none⟩)) ∧ w'.cell? ⟨w.heap.size, 1, none⟩ = some (.int .i64 x.e) ∧ w'.cell? ⟨w.heap.size + 1, 0, none⟩ = some (.pointer (some ⟨by', 0, none⟩)) ∧ w'.cell? ⟨w.heap.size + 1, 1, none⟩ = some (.int .i64 y.e) ∧
      w3.grownBy w' (some (w.heap.size + 1 + 1)) ∧ Duo w' (w.heap.size + 1 + 1)) := fun w' h h3 =>
    ⟨cell_grown h (by omega) (by omega) x0, cell_grown h (by omega) (by omega) x1, cell_grown h (by omega) (by omega) x2, cell_grown h (by omega) (by omega) x3, h, h3⟩
  have G0 : Hid (∀ n, w3.grownBy (w3.drewN n) (some (w.heap.size + 1 + 1))) := fun n => ⟨rfl, rfl, rfl, Nat.le_refl _, fun _ _ _ => rfl⟩
  have hrlt : w.heap.size + 1 + 1 < w3.heap.size := by omega
  have hby3 : by' ≠ w3.heap.size := by omega
  have hbx3 : bx ≠ w.heap.size + 1 + 1 := by omega
  have HP : Hid (∀ (W : World) (ba : Nat), w3.grownBy W (some (w.heap.size + 1 + 1)) → Duo W (w.heap.size + 1 + 1) → IR W ba (-y.z) → Calls Tryz.prog 128 #[.agg #[.pointer (some ⟨bx, 0, none⟩), .int .i64 x.e], .agg #[.pointer (some ⟨ba, 0, none⟩), .int .i64 y.e]] W fun e w' => EDone W R e w') := fun W ba hg hd hI => by
    rw [hR]
    exact explus_calls _ _ x ⟨-y.z, y.e⟩ W ⟨bx, rfl, HX3.out.grownR hg (by omega) T0.out.rec'⟩ hx ⟨ba, rfl, hI⟩ hsy
  clear hw3 r0 r1 r2 hg3 hR hx hsy
  go_region_held3 (fun w' : World => w'.cell? ⟨w.heap.size, 0, none⟩ = some (.pointer (some ⟨bx, 0, none⟩)) ∧ w'.cell? ⟨w.heap.size, 1, none⟩ = some (.int .i64 x.e) ∧ w'.cell? ⟨w.heap.size + 1, 0, none⟩ = some (.pointer (some ⟨by', 0, none⟩)) ∧ w'.cell? ⟨w.heap.size + 1, 1, none⟩ = some (.int .i64 y.e) ∧
      w3.grownBy w' (some (w.heap.size + 1 + 1)) ∧ Duo w' (w.heap.size + 1 + 1))
    (first
      | exact K6.out _ (G0.out _) T0.out
      | exact K6.out _ (G0.out 1) T0.out
      | exact K6.out _ (grown_trans (G0.out 1) (grown_alloc _ _ _)) (Duo.grown T0.out (grown_alloc _ _ none) (by simp))
      | (go_split_ands; exact K6.out _ (grown_trans (by assumption) (grown_alloc _ _ _)) (Duo.grown (by assumption) (grown_alloc _ _ none) (by simp)))
      | exact K6.out _ (grown_trans hG7 (hT7.set _ _).2) (hT7.set _ _).1
      | exact K6.out _ hG7 hT7
      | exact K6.out _ hG5 hT5)
    (first
      | (go_at_call 113; go_split_ands; refine (ineg_calls w3.heap.size by' y.z _ (two_new w3 106).drew (HY3.out.alloc _).drew).mono ?_; rintro e1 w4 ⟨rfl, hIm, hgm⟩; have hG5 := grown_skip (w := w3) (by assumption) hgm (Nat.le_refl _); have hT5 := Duo.grown (b := w.heap.size + 1 + 1) (by assumption) hgm (by intro e; injection e with e; omega); obtain ⟨q1, q2, y0, y1, y2, y3⟩ := hT5.open; have HIm := Lib.hid hIm; clear hIm hgm)
      | (go_at_call 128; go_split_ands; refine (HP.out _ w3.heap.size (by assumption) (by assumption) (by first | exact HIm.out | exact HIm.out.drew)).mono ?_; rintro e1 w6 ⟨v6, rfl, hv6, hb6⟩; have hG7 := grown_trans (show w3.grownBy _ (some (w.heap.size + 1 + 1)) by assumption) (grown_of_below hb6 _); have hT7 := Duo.grown (b := w.heap.size + 1 + 1) (by assumption) (grown_of_below hb6 none) (by simp); obtain ⟨b6, rfl, hI6⟩ := hv6.apart; obtain ⟨s1, s2, z0, z1, z2, z3⟩ := hT7.open; have HI6 := Lib.hid hI6; clear hb6 hv6 hI6))
  all_goals
    have HB5 : Hid (Below w.heap.size w w6) := (below_of_grown0 HW1.out).trans (below_of_grown hG7 (by omega) (by omega))
    have HD := Lib.hid (EDone.store (w := w) (x := R) (r := w.heap.size + 1 + 1) hT7 HI6.out (duo_ne hT7 HI6.out) HB5.out (by omega))
    go_wp2
    refine bodyPost_ret (v := .agg #[.pointer (some ⟨b6, 0, none⟩), .int .i64 R.e]) ?_ rfl HD.out
    simp [results, Tryz.results130, go_sem, *]
end Go.Proofs.YtjbdadhggejoiaaGreatDoor
