/- 'dyad': Sign, Top.
   'dyad': numbers as plain Lean has them: a sign, an odd whole number, a power of two.
   cuspref02: 'size', High, Sgn, Scaled.
   cuspref02: 'size' is how many bits. -/
import Derived.Test.YtjbdadhggejoiaaGreatDoorM15
import Derived.Test.YtjbdadhggejoiaaGreatDoorM04

namespace Go.Proofs.YtjbdadhggejoiaaGreatDoor
open Go.RowKit
set_option maxRecDepth 100000

def sgD (neg : Bool) (m : Nat) : Int := if m = 0 then 0 else if neg then -1 else 1
theorem lenZ (m : Nat) : (((words m).length : Int) == 0) = decide (m = 0) := by
  have := lenPos (m : Int)
  rw [Int.natAbs_natCast] at this
  rw [this]
  by_cases h : m = 0
  · subst h; rfl
  · rw [decide_eq_false h, decide_eq_false (by omega)]

theorem wrap_in {x : Int} (h : -9223372036854775808 ≤ x) (h2 : x < 9223372036854775808) : IntKind.i64.wrap x = x := by
  rw [IntKind.wrap_i64]
  omega
theorem box {w w1 : World} {o : Obj} (hg : (w.alloc o).grownBy w1 none) : w1.heap[w.heap.size]? = some o := (hg.block _ (by simp) (fun e => by cases e)).trans (heap_alloc_new w o)

set_option maxHeartbeats 4000000 in
theorem dsign_calls (v : Value) (neg : Bool) (m : Nat) (e : Int) (w : World) (hv : NR w v neg m e) (ho : Ok neg m e) :
    Calls Tryz.prog 69 #[v] w fun en w' => en = .returned (.int .i64 (sgD neg m)) ∧ w.grownBy w' none := by
  have hV := fun o => dvalid_calls v neg m e (w.alloc o) (hv.grown0 (grown_alloc _ _ _)) ho
  obtain ⟨A, c, rfl, hc, hcm, hW⟩ := hv
  unfold NV at hV ⊢
  have hz := lenZ m
  obtain ⟨L, hL⟩ : ∃ L, L = (words m).length := ⟨_, rfl⟩
  rw [← hL] at hV hz ⊢
  have HV := Lib.hid hV
  clear hV hL hW hc
  unfold sgD
  by_cases hm : m = 0
  · rw [if_pos hm]
    rw [decide_eq_true hm] at hz
    clear hm
    go_enter Tryz.func69, Tryz.ntmps69
    go_wp2_with fail
    refine (HV.out _).mono ?_
    rintro e1 w1 ⟨rfl, hg⟩
    obtain ⟨x0, _⟩ := row_cells (box hg) 0
    obtain ⟨x1, _⟩ := row_cells (box hg) 1
    change w1.cell? _ = some _ at x0 x1
    go_wp2
    go_ret
    exact ⟨rfl, grown_trans (grown_alloc _ _ _) hg⟩
  · rw [if_neg hm]
    rw [decide_eq_false hm] at hz
    clear hm
    cases neg
    · go_enter Tryz.func69, Tryz.ntmps69
      go_wp2_with fail
      refine (HV.out _).mono ?_
      rintro e1 w1 ⟨rfl, hg⟩
      obtain ⟨x0, _⟩ := row_cells (box hg) 0
      obtain ⟨x1, _⟩ := row_cells (box hg) 1
      change w1.cell? _ = some _ at x0 x1
      go_wp2
      go_ret
      exact ⟨rfl, grown_trans (grown_alloc _ _ _) hg⟩
    · go_enter Tryz.func69, Tryz.ntmps69
      go_wp2_with fail
      refine (HV.out _).mono ?_
      rintro e1 w1 ⟨rfl, hg⟩
      obtain ⟨x0, _⟩ := row_cells (box hg) 0
      obtain ⟨x1, _⟩ := row_cells (box hg) 1
      change w1.cell? _ = some _ at x0 x1
      go_wp2
      go_ret
      exact ⟨rfl, grown_trans (grown_alloc _ _ _) hg⟩

set_option maxHeartbeats 4000000 in
theorem dtop_calls (v : Value) (neg : Bool) (m : Nat) (e : Int) (w : World) (hv : NR w v neg m e) (ho : Ok neg m e) :
    Calls Tryz.prog 121 #[v] w fun en w' => en = .returned (.int .i64 (if m = 0 then 0 else (Go.bitLen m : Int) + e)) ∧ w.grownBy w' none := by
  have hV := fun o => dvalid_calls v neg m e (w.alloc o) (hv.grown0 (grown_alloc _ _ _)) ho
  have hval := fun w1 (hg : w.grownBy w1 none) => value_calls v neg m e w1.drew (show NR w1 v neg m e from hv.grown0 hg) (Nat.le_trans ho.len (by decide))
  have hz := lenZ m
  have hlen := ho.len
  obtain ⟨A, c, rfl, hc, hcm, hW⟩ := hv
  unfold NV at hV hval ⊢
  by_cases hm : m = 0
  · rw [if_pos hm]
    rw [decide_eq_true hm] at hz
    obtain ⟨L, hL⟩ : ∃ L, L = (words m).length := ⟨_, rfl⟩
    rw [← hL] at hz ⊢
    simp only [← hL] at hV
    have HV := Lib.hid hV
    clear hV hL hW hc hm hval hlen
    go_enter Tryz.func121, Tryz.ntmps121
    go_wp2_with fail
    refine (HV.out _).mono ?_
    rintro e1 w1 ⟨rfl, hg⟩
    obtain ⟨x0, _⟩ := row_cells (box hg) 0
    obtain ⟨x1, _⟩ := row_cells (box hg) 1
    change w1.cell? _ = some _ at x0 x1
    go_wp2
    go_ret
    exact ⟨rfl, grown_trans (grown_alloc _ _ _) hg⟩
  · rw [if_neg hm]
    rw [decide_eq_false hm] at hz
    have he : -65536 ≤ e ∧ e ≤ 65536 := by
      rcases ho with ⟨h, _⟩ | ⟨_, _, h1, h2⟩
      · exact absurd h hm
      · exact ⟨h1, h2⟩
    have hbl : Go.bitLen m ≤ 65536 := by
      have h1 := val_lt (words_isW m)
      rw [val_words] at h1
      have h2 := (bitLen_spec m).2 hm
      have h3 : 2 ^ (Go.bitLen m - 1) < 2 ^ (32 * (words m).length) := by rw [Nat.pow_mul]; exact Nat.lt_of_le_of_lt h2 h1
      have h4 := (Nat.pow_lt_pow_iff_right (by decide)).1 h3
      omega
    obtain ⟨bl, hb⟩ : ∃ bl, bl = Go.bitLen m := ⟨_, rfl⟩
    rw [← hb] at hbl ⊢
    have hbc := fun w1 b (h : IR w1 b (sg neg m)) => ibits_calls b (sg neg m) w1 h (by unfold sg; split <;> simp <;> omega)
    have hsa : (sg neg m).natAbs = m := by unfold sg; split <;> simp
    simp only [hsa, ← hb] at hbc
    obtain ⟨L, hL⟩ : ∃ L, L = (words m).length := ⟨_, rfl⟩
    rw [← hL] at hz ⊢
    simp only [← hL] at hV hval
    have HV := Lib.hid hV
    have HVal := Lib.hid hval
    have HBC := Lib.hid hbc
    obtain ⟨he1, he2⟩ := he
    clear hV hL hW hc hm hval hlen hbc hsa hb
    go_enter Tryz.func121, Tryz.ntmps121
    go_wp2_with fail
    refine (HV.out _).mono ?_
    rintro e1 w1 ⟨rfl, hg⟩
    have hlt : w.heap.size < w1.heap.size := by have := hg.size; simp at this; omega
    obtain ⟨x0, _⟩ := row_cells (box hg) 0
    obtain ⟨x1, _⟩ := row_cells (box hg) 1
    obtain ⟨x2, _⟩ := row_cells (box hg) 2
    change w1.cell? _ = some _ at x0 x1 x2
    have hg0 := grown_trans (grown_alloc w _ none) hg
    have HG0 := Lib.hid hg0
    clear hg hg0
    go_wp2_with fail
    go_region_held3 (fun w' : World => w'.cell? ⟨w.heap.size, 0, none⟩ = some (.bool neg) ∧ w'.cell? ⟨w.heap.size, 1, none⟩ = some (.slice A L c) ∧ w'.cell? ⟨w.heap.size, 2, none⟩ = some (.int .i64 e))
      (first
        | exact ⟨x0, x1, x2⟩
        | exact ⟨cell_keep HB.out hlt x0, cell_keep HB.out hlt x1, cell_keep HB.out hlt x2⟩)
      (first
        | (go_at_call 79; refine (HVal.out _ HG0.out).mono ?_; rintro e1 w2 ⟨b, rfl, hbb, hI, hb⟩; have HI := Lib.hid hI; have HB := Lib.hid hb; clear hI hb)
        | (go_at_call 106; refine (HBC.out _ _ HI.out).mono ?_; rintro e1 w3 ⟨rfl, hw3⟩; obtain rfl := hw3.symm))
    go_wp2
    go_ret
    exact ⟨congrArg (fun z => Ending.returned (.int .i64 z)) (wrap_in (by omega) (by omega)), grown_trans HG0.out (grown_of_drew (grown_of_below HB.out none))⟩
end Go.Proofs.YtjbdadhggejoiaaGreatDoor

namespace Go.Proofs.YtjbdadhggejoiaaGreatDoor
open Go.RowKit
set_option maxRecDepth 100000

structure Dy where
  neg : Bool
  m : Nat
  e : Int
instance : DecidableEq Dy := fun ⟨n, m, e⟩ ⟨n', m', e'⟩ => if h : n = n' ∧ m = m' ∧ e = e' then isTrue (by obtain ⟨rfl, rfl, rfl⟩ := h; rfl) else isFalse (fun k => h (by cases k; exact ⟨rfl, rfl, rfl⟩))
/-- how many noughts stand behind the lowest one -/
def tz (n : Nat) : Nat := Nat.log2 (Nat.gcd n (2 ^ Nat.log2 n))
def dnorm (z e : Int) : Dy := if z = 0 then ⟨false, 0, 0⟩ else ⟨decide (z < 0), z.natAbs / 2 ^ tz z.natAbs, e + tz z.natAbs⟩
def Dy.ok (d : Dy) : Prop := Ok d.neg d.m d.e
def Dy.z (d : Dy) : Int := sg d.neg d.m
def DR (w : World) (v : Value) (d : Dy) : Prop := NR w v d.neg d.m d.e
theorem coprime_odd {o : Nat} (h : o % 2 = 1) (j : Nat) : Nat.gcd o (2 ^ j) = 1 := by
  refine Nat.Coprime.pow_right j ?_
  rw [Nat.coprime_iff_gcd_eq_one, Nat.gcd_comm, Nat.gcd_rec, h]
  rfl
theorem tz_eq {n k o : Nat} (h : n = 2 ^ k * o) (ho : o % 2 = 1) : tz n = k := by
  have hn : n ≠ 0 := fun e => by
    rw [e] at h
    have := Nat.two_pow_pos k
    rcases Nat.mul_eq_zero.1 h.symm with h | h <;> omega
  have hk : k ≤ Nat.log2 n := by
    rw [Nat.le_log2 hn, h]
    exact Nat.le_mul_of_pos_right _ (by omega)
  unfold tz
  obtain ⟨j, hj⟩ : ∃ j, Nat.log2 n = k + j := ⟨Nat.log2 n - k, by omega⟩
  rw [hj, Nat.pow_add, h, Nat.gcd_mul_left, coprime_odd ho, Nat.mul_one, Nat.log2_two_pow]
theorem tz_spec {n : Nat} (h : n ≠ 0) : n = 2 ^ tz n * (n / 2 ^ tz n) ∧ n / 2 ^ tz n % 2 = 1 := by
  obtain ⟨k, o, e, ho⟩ := tz_ex n h
  rw [tz_eq e ho]
  have : n / 2 ^ k = o := by rw [e, Nat.mul_div_cancel_left _ (Nat.two_pow_pos k)]
  rw [this]
  exact ⟨e, ho⟩
theorem words_len_lt {n k : Nat} (h : n < 4294967296 ^ k) : (words n).length ≤ k := by
  refine Nat.le_of_not_lt fun hc => ?_
  have h6 := val_ge (canon_of n) (fun e => by rw [e] at hc; simp at hc)
  rw [val_words] at h6
  have h7 : (4294967296 : Nat) ^ k ≤ 4294967296 ^ ((words n).length - 1) := Nat.pow_le_pow_right (by decide) (by omega)
  omega
theorem tz_le {n : Nat} (h : n ≠ 0) : tz n ≤ 32 * (words n).length := by
  have h1 := val_lt (words_isW n)
  rw [val_words] at h1
  obtain ⟨h2, h3⟩ := tz_spec h
  have h4 : 2 ^ tz n ≤ n := by
    have h30 : 1 ≤ n / 2 ^ tz n := by
      generalize n / 2 ^ tz n = q at h3
      omega
    have : 2 ^ tz n * 1 ≤ 2 ^ tz n * (n / 2 ^ tz n) := Nat.mul_le_mul_left _ h30
    omega
  have h5 : 2 ^ tz n < 2 ^ (32 * (words n).length) := by rw [Nat.pow_mul]; exact Nat.lt_of_le_of_lt h4 h1
  exact Nat.le_of_lt ((Nat.pow_lt_pow_iff_right (by decide)).1 h5)

/-- what a call leaves that makes a number of the program, and no error -/
def DDone (w : World) (d : Dy) (en : Ending) (w' : World) : Prop := NumDone w d.neg d.m d.e en w'
theorem dnum_calls (b : Nat) (z e : Int) (w : World) (hb : IR w b z) (ho : (dnorm z e).ok) (hl : (words z.natAbs).length ≤ 1048576) (hT : Tab w) :
    Calls Tryz.prog 83 #[.pointer (some ⟨b, 0, none⟩), .int .i64 e] w fun en w' => DDone w (dnorm z e) en w' := by
  unfold DDone
  by_cases h0 : z = 0
  · subst h0
    exact num_zero b e w hb
  · have h1 : z.natAbs ≠ 0 := by omega
    obtain ⟨h2, h3⟩ := tz_spec h1
    have h4 := tz_le h1
    unfold Dy.ok dnorm at ho
    rw [if_neg h0] at ho
    unfold dnorm
    rw [if_neg h0]
    simp only at ho ⊢
    have h30 : 1 ≤ z.natAbs / 2 ^ tz z.natAbs := by
      generalize z.natAbs / 2 ^ tz z.natAbs = q at h3
      omega
    rcases ho with ⟨h5, _⟩ | ⟨_, h5, h6, h7⟩
    · rw [h5] at h30; exact absurd h30 (by decide)
    · refine num_calls b (tz z.natAbs) (z.natAbs / 2 ^ tz z.natAbs) z e (e + tz z.natAbs) (decide (z < 0)) w hb h2 h3 rfl hl ?_ (by omega) rfl h6 h7 hT
      have h8 := val_lt (words_isW (z.natAbs / 2 ^ tz z.natAbs))
      rw [val_words] at h8
      have h9 : z.natAbs / 2 ^ tz z.natAbs ≠ 0 := fun e => by rw [e] at h30; exact absurd h30 (by decide)
      have h10 := (bitLen_spec (z.natAbs / 2 ^ tz z.natAbs)).2 h9
      have h11 : 2 ^ (Go.bitLen (z.natAbs / 2 ^ tz z.natAbs) - 1) < 2 ^ (32 * (words (z.natAbs / 2 ^ tz z.natAbs)).length) := by rw [Nat.pow_mul]; exact Nat.lt_of_le_of_lt h10 h8
      have h12 := (Nat.pow_lt_pow_iff_right (by decide)).1 h11
      omega
end Go.Proofs.YtjbdadhggejoiaaGreatDoor

namespace Go.Proofs.YtjbdadhggejoiaaGreatDoor
open Go.RowKit
set_option maxRecDepth 100000

set_option maxHeartbeats 1000000 in
theorem csgn_calls (v : Value) (m : Nat) (e : Int) (w : World) (hv : NR w v false m e) : Calls Tryz.prog 31 #[v] w fun en w' => en = .returned (.int .i64 (if m = 0 then 0 else 1)) ∧ w.grownBy w' none := by
  obtain ⟨A, c, rfl, hc, hcm, hW⟩ := hv
  unfold NV
  have hlz : (((words m).length : Int) == 0) = decide (m = 0) := by
    by_cases h : m = 0
    · subst h; rfl
    · rw [decide_eq_false h, beq_eq_false_iff_ne]
      intro h2
      have := val_words m
      rw [List.eq_nil_of_length_eq_zero (by omega : (words m).length = 0)] at this
      exact h this.symm
  obtain ⟨L, hL⟩ : ∃ L, L = (words m).length := ⟨_, rfl⟩
  rw [← hL] at hlz ⊢
  clear hL hc hW
  by_cases h : m = 0
  · rw [decide_eq_true h] at hlz
    rw [if_pos h]
    clear h
    go_enter Tryz.func31, Tryz.ntmps31
    go_wp2
    go_ret
    exact ⟨rfl, grown_alloc _ _ _⟩
  · rw [decide_eq_false h] at hlz
    rw [if_neg h]
    clear h
    go_enter Tryz.func31, Tryz.ntmps31
    go_wp2
    go_ret
    exact ⟨rfl, grown_alloc _ _ _⟩
end Go.Proofs.YtjbdadhggejoiaaGreatDoor

namespace Go.Proofs.YtjbdadhggejoiaaGreatDoor
open Go.RowKit
set_option maxRecDepth 100000

theorem bl_half {u : Nat} (h : u ≠ 0) : Go.bitLen u = Go.bitLen (u / 2) + 1 := by
  by_cases h1 : u / 2 = 0
  · obtain rfl : u = 1 := by omega
    rfl
  · have := bitLen_shift u 1 (by rw [Nat.pow_one]; exact h1)
    rw [Nat.pow_one] at this
    omega
set_option maxHeartbeats 4000000 in
theorem csize_calls (A : Option Addr) (c n : Nat) (w : World) (hc : (words n).length ≤ c) (hl : (words n).length ≤ 1073741824) (h : Ws w w.heap.size A (words n)) :
    Calls Tryz.prog 92 #[.slice A (words n).length c] w fun e w' => e = .returned (.int .i64 (Go.bitLen n)) ∧ w = w' := by
  have HH := Lib.hid h
  clear h
  by_cases h0 : n = 0
  · subst h0
    have e0 : (words 0).length = 0 := rfl
    rw [e0]
    go_enter Tryz.func92, Tryz.ntmps92
    go_wp2
    go_ret
    exact ⟨rfl, rfl⟩
  · have hpos : 0 < (words n).length := by
      refine Nat.pos_of_ne_zero fun e => h0 ?_
      have := val_words n
      rw [List.eq_nil_of_length_eq_zero e] at this
      exact this.symm
    obtain ⟨k, hk⟩ : ∃ k, (words n).length = k + 1 := ⟨(words n).length - 1, by omega⟩
    obtain ⟨ad, rfl, hab, h1⟩ := HH.out.at_ k (by omega)
    obtain ⟨t, ht⟩ : ∃ t, t = (words n)[k] := ⟨_, rfl⟩
    rw [← ht] at h1
    obtain ⟨hb, ht0, htw⟩ := bl_words (t := t) hk (by rw [ht]; exact List.getElem?_eq_getElem _)
    rw [hk] at hl hc ⊢
    obtain ⟨B, hB⟩ : ∃ B, B = Go.bitLen n := ⟨_, rfl⟩
    rw [← hB] at hb ⊢
    have HB := Lib.hid hb
    have ek : (((k + 1 : Nat)) : Int) - 1 = (k : Int) := by omega
    clear hb hB ht hpos hk h0 HH
    go_enter Tryz.func92, Tryz.ntmps92
    go_wp2
    go_loopw [3, 4] (fun v3 v4 wr => ∃ j u : Nat, v3 = .int .i64 ((32 * k + j : Nat) : Int) ∧ v4 = .int .u32 u ∧ Hid (Go.bitLen t = j + Go.bitLen u) ∧ u < 4294967296 ∧ j ≤ 32 ∧ w = wr) (fun _ v4 _ => (intOf v4).toNat)
    case atStart => exact ⟨0, t, by go_num, rfl, by show _ = _; omega, htw, by omega, rfl⟩
    case round =>
      obtain ⟨j, u, rfl, rfl, hJ, hu, hj, rfl⟩ := hrel
      by_cases hu0 : u = 0
      · subst hu0
        have hf : B = 32 * k + j := by have := HB.out; have h2 := hJ.out; rw [bl_zero] at h2; omega
        subst hf
        clear HB hJ
        go_wp2
        go_ret
        exact ⟨rfl, rfl⟩
      · have hupos : ((u : Int) > 0) = True := eq_true (by omega)
        have hju : j < 32 := by
          have h2 := hJ.out
          have h3 := bl_pos hu0
          have : Go.bitLen t ≤ 32 := by
            unfold Go.bitLen
            rw [if_neg ht0]
            have := (Nat.log2_lt ht0).2 (show t < 2 ^ 32 from htw)
            omega
          omega
        have hJ2 : Hid (Go.bitLen t = (j + 1) + Go.bitLen (u / 2)) := by
          have h2 := hJ.out
          have h3 := bl_half hu0
          show _ = _
          omega
        clear hJ HB
        go_wp2
        refine ⟨⟨j + 1, u / 2, by go_num, by go_num, hJ2, by omega, by omega, by first | rfl | trivial⟩, ?_⟩
        simp [intOf]
        omega
end Go.Proofs.YtjbdadhggejoiaaGreatDoor
