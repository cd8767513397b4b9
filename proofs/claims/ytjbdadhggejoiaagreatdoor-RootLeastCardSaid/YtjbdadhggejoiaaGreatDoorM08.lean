/- 'bitLen' is how many bits a number has. -/
import Derived.Test.YtjbdadhggejoiaaGreatDoorM06
import Derived.Test.YtjbdadhggejoiaaGreatDoorM01
import Derived.Laws.MathBits
import Derived.Lib.ItoaNum

namespace Go.Proofs.YtjbdadhggejoiaaGreatDoor
open Go.RowKit
set_option maxRecDepth 100000

theorem bl_unique {n k : Nat} (h1 : 2 ^ k ≤ n) (h2 : n < 2 ^ (k + 1)) : Go.bitLen n = k + 1 := by
  have hn : n ≠ 0 := by
    have := Nat.two_pow_pos k
    omega
  unfold Go.bitLen
  rw [if_neg hn, (Nat.log2_eq_iff hn).2 ⟨h1, h2⟩]
theorem bl_zero : Go.bitLen 0 = 0 := rfl
theorem bl_lib {x : Nat} (h : x < 18446744073709551616) : Lib.bitLen x = Go.bitLen x := by
  by_cases h0 : x = 0
  · subst h0; rfl
  · obtain ⟨a, b, c⟩ := Lib.bitLenAux_bounds 64 x h h0
    obtain ⟨k, hk⟩ : ∃ k, Lib.bitLenAux 64 x = k + 1 := ⟨Lib.bitLenAux 64 x - 1, by omega⟩
    unfold Lib.bitLen
    rw [hk] at b c ⊢
    exact (bl_unique b c).symm
theorem bl_pos {n : Nat} (h : n ≠ 0) : 0 < Go.bitLen n := by
  unfold Go.bitLen
  rw [if_neg h]
  omega
theorem bl_words {n k t : Nat} (hk : (words n).length = k + 1) (ht : (words n)[k]? = some t) : Go.bitLen n = 32 * k + Go.bitLen t ∧ t ≠ 0 ∧ t < 4294967296 := by
  have hv := val_words n
  obtain ⟨l, hl⟩ : ∃ l, l = words n := ⟨_, rfl⟩
  have hc := canon_of n
  rw [← hl] at hk ht hv hc
  obtain ⟨hlt, hte⟩ := List.getElem?_eq_some_iff.1 ht
  have h1 := val_at hlt
  have hd : l.drop (k + 1) = [] := List.drop_eq_nil_of_le (by omega)
  rw [hd, hte] at h1
  have h2 := val_lt (l := l.take k) (fun x hx => hc.1 x (List.mem_of_mem_take hx))
  rw [List.length_take, Nat.min_eq_left (by omega)] at h2
  have ht0 : t ≠ 0 := by
    have hne : l ≠ [] := fun e => by subst e; simp at hk
    have := hc.2 hne
    rw [List.getLast_eq_getElem] at this
    have e : l.length - 1 = k := by omega
    simp only [e] at this
    rwa [hte] at this
  have htw : t < 4294967296 := by rw [← hte]; exact hc.1 _ (List.getElem_mem hlt)
  refine ⟨?_, ht0, htw⟩
  have hp : (4294967296 : Nat) ^ k = 2 ^ (32 * k) := by rw [Nat.pow_mul]
  rw [hp] at h1 h2
  have hq : n / 2 ^ (32 * k) = t := by
    rw [← hv, h1]
    simp only [val, Nat.mul_zero, Nat.add_zero]
    rw [Nat.add_mul_div_left _ _ (Nat.two_pow_pos _), Nat.div_eq_of_lt h2, Nat.zero_add]
  rw [bitLen_shift n (32 * k) (by rw [hq]; exact ht0), hq]

set_option maxHeartbeats 4000000 in
theorem nbits_calls (A : Option Addr) (c n : Nat) (w : World) (hc : (words n).length ≤ c) (hl : (words n).length ≤ 1073741824) (h : Ws w w.heap.size A (words n)) :
    Calls Tryz.prog 132 #[.slice A (words n).length c] w fun e w' => e = .returned (.int .i64 (Go.bitLen n)) ∧ w' = w := by
  have HH := Lib.hid h
  clear h
  by_cases h0 : n = 0
  · subst h0
    have e0 : (words 0).length = 0 := rfl
    rw [e0]
    go_enter Tryz.func132, Tryz.ntmps132
    go_wp2
    go_ret
    exact ⟨rfl, rfl⟩
  · have hpos : 0 < (words n).length := by
      refine Nat.pos_of_ne_zero fun e => h0 ?_
      have := val_words n
      rw [List.eq_nil_of_length_eq_zero e] at this
      exact this.symm
    obtain ⟨k, hk⟩ : ∃ k, (words n).length = k + 1 := ⟨(words n).length - 1, by omega⟩
    obtain ⟨ad, rfl, hab, h1⟩ := HH.out.at_ k (by omega)
    obtain ⟨t, ht⟩ : ∃ t, t = (words n)[k] := ⟨_, rfl⟩
    rw [← ht] at h1
    obtain ⟨hb, ht0, htw⟩ := bl_words (t := t) hk (by rw [ht]; exact List.getElem?_eq_getElem _)
    have ht32 : Go.bitLen t ≤ 32 := by
      unfold Go.bitLen
      rw [if_neg ht0]
      have := (Nat.log2_lt ht0).2 (show t < 2 ^ 32 from htw)
      omega
    rw [hk] at hl hc ⊢
    have HB := Lib.hid hb
    have hcall := Tryz.bits_Len32 (t : Int) w (by omega) (by omega)
    rw [Int.toNat_natCast, bl_lib (by omega)] at hcall
    have HC := Lib.hid hcall
    clear hcall hb ht HH hpos hk
    go_enter Tryz.func132, Tryz.ntmps132
    go_wp2_with fail
    refine HC.out.mono ?_
    rintro e w2 ⟨rfl, rfl⟩
    go_wp2
    go_ret
    exact ⟨by rw [HB.out]; go_num, rfl⟩
end Go.Proofs.YtjbdadhggejoiaaGreatDoor
