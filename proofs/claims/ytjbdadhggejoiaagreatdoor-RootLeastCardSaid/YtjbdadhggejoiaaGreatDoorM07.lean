/- Knuth's division, one digit, in plain Lean.
   cuspref02: 'up' is a number times a power of two.
   cuspref02: 'product' is the product. -/
import Derived.Test.YtjbdadhggejoiaaGreatDoorM06
import Derived.Test.YtjbdadhggejoiaaGreatDoorM04

namespace Go.Proofs.YtjbdadhggejoiaaGreatDoor
open Go.RowKit

theorem val_drop {l : List Nat} {i : Nat} (h : i < l.length) : val (l.drop i) = l[i] + 4294967296 * val (l.drop (i + 1)) := by
  rw [List.drop_eq_getElem_cons h, val]
theorem val_split (l : List Nat) (i : Nat) (h : i ≤ l.length) : val l = val (l.take i) + 4294967296 ^ i * val (l.drop i) := by
  conv => lhs; rw [← List.take_append_drop i l]
  rw [val_append, List.length_take, Nat.min_eq_left h]
theorem val_lt_len {l : List Nat} (h : IsW l) {n : Nat} (hn : l.length ≤ n) : val l < 4294967296 ^ n :=
  Nat.lt_of_lt_of_le (val_lt h) (Nat.pow_le_pow_right (by decide) hn)
theorem IsW.take {l : List Nat} (h : IsW l) (i : Nat) : IsW (l.take i) := fun x hx => h x (List.mem_of_mem_take hx)
theorem IsW.drop {l : List Nat} (h : IsW l) (i : Nat) : IsW (l.drop i) := fun x hx => h x (List.mem_of_mem_drop hx)

/-- What the guess is told by: U the number divided, V the divisor, its two highest words vh, v2; P the place below them; top, u2 the highest of U. -/
structure Kn (U V vh v2 top u2 P B : Nat) : Prop where
  hB : B = 4294967296
  hP : 0 < P
  hv : ∃ r, V = (vh * B + v2) * P + r ∧ r < P
  hu : ∃ r, U = (top * B + u2) * P + r ∧ r < P
  hvh : 2147483648 ≤ vh
  hv2 : v2 < B
  hu2 : u2 < B
  hUV : U < B * V

theorem Kn.pos {U V vh v2 top u2 P B : Nat} (h : Kn U V vh v2 top u2 P B) : 0 < V := by
  obtain ⟨r, hr, _⟩ := h.hv
  have h1 : 0 < (vh * B + v2) := by
    have := h.hvh
    have := h.hB
    have : 0 < vh * B := Nat.mul_pos (by omega) (by omega)
    omega
  have := Nat.mul_pos h1 h.hP
  omega
/-- the quotient times the highest word is at most the top -/
theorem Kn.low {U V vh v2 top u2 P B : Nat} (h : Kn U V vh v2 top u2 P B) : U / V * vh ≤ top := by
  obtain ⟨r, hr, hrp⟩ := h.hv
  obtain ⟨s, hs, hsp⟩ := h.hu
  have h1 : U / V * V ≤ U := Nat.div_mul_le_self U V
  refine Nat.le_of_not_lt fun hc => ?_
  have hb : 0 < B := by rw [h.hB]; decide
  have h2 : (top + 1) * (B * P) ≤ U / V * vh * (B * P) := Nat.mul_le_mul_right _ hc
  have h3 : U / V * vh * (B * P) ≤ U / V * V := by
    rw [Nat.mul_assoc]
    refine Nat.mul_le_mul_left _ ?_
    rw [hr, Nat.add_mul, ← Nat.mul_assoc]
    omega
  have h4 : U < (top + 1) * (B * P) := by
    rw [hs]
    have e : (top + 1) * (B * P) = (top * B + B) * P := by rw [← Nat.mul_assoc, Nat.add_mul, Nat.one_mul]
    rw [e]
    have h5 : (top * B + u2 + 1) * P ≤ (top * B + B) * P := Nat.mul_le_mul_right _ (by have := h.hu2; omega)
    rw [Nat.add_mul, Nat.one_mul] at h5
    omega
  omega
theorem Kn.small {U V vh v2 top u2 P B : Nat} (h : Kn U V vh v2 top u2 P B) : U / V ≤ 4294967295 := by
  have := (Nat.div_lt_iff_lt_mul h.pos).2 h.hUV
  rw [h.hB] at this
  omega
theorem Kn.start {U V vh v2 top u2 P B : Nat} (h : Kn U V vh v2 top u2 P B) : U / V ≤ top / vh := by
  rw [Nat.le_div_iff_mul_le (by have := h.hvh; omega)]
  exact h.low
/-- a guess that does not pass is too great -/
theorem Kn.more {U V vh v2 top u2 P B gs : Nat} (h : Kn U V vh v2 top u2 P B) (hg : (top - gs * vh) * B + u2 < gs * v2) (hv : gs * vh ≤ top) : U / V < gs := by
  obtain ⟨r, hr, hrp⟩ := h.hv
  obtain ⟨s, hs, hsp⟩ := h.hu
  rw [Nat.div_lt_iff_lt_mul h.pos]
  have h1 : top * B + u2 + 1 ≤ gs * (vh * B + v2) := by
    rw [Nat.mul_add, ← Nat.mul_assoc]
    rw [Nat.sub_mul] at hg
    have : gs * vh * B ≤ top * B := Nat.mul_le_mul_right _ hv
    omega
  have h2 := Nat.mul_le_mul_right P h1
  have h3 : gs * (vh * B + v2) * P ≤ gs * V := by
    rw [Nat.mul_assoc]
    exact Nat.mul_le_mul_left _ (by omega)
  rw [Nat.add_mul, Nat.one_mul] at h2
  omega
/-- a guess that passes is the quotient, or one more -/
theorem Kn.pass {U V vh v2 top u2 P B gs : Nat} (h : Kn U V vh v2 top u2 P B) (hg : gs ≤ 4294967295) (hv : gs * vh ≤ top) (hp : 4294967296 ≤ top - gs * vh ∨ gs * v2 ≤ (top - gs * vh) * B + u2) : gs ≤ U / V + 1 := by
  obtain ⟨r, hr, hrp⟩ := h.hv
  obtain ⟨s, hs, hsp⟩ := h.hu
  have h0 : gs * v2 ≤ (top - gs * vh) * B + u2 := by
    rcases hp with hp | hp
    · have h1 : gs * v2 ≤ B * B := Nat.mul_le_mul (by rw [h.hB]; omega) (Nat.le_of_lt h.hv2)
      have h2 : B * B ≤ (top - gs * vh) * B := Nat.mul_le_mul_right _ (by rw [h.hB]; exact hp)
      omega
    · exact hp
  have h1 : gs * (vh * B + v2) ≤ top * B + u2 := by
    rw [Nat.mul_add, ← Nat.mul_assoc]
    rw [Nat.sub_mul] at h0
    have : gs * vh * B ≤ top * B := Nat.mul_le_mul_right _ hv
    omega
  have h2 : gs * V ≤ U + gs * r := by
    rw [hr, Nat.mul_add, ← Nat.mul_assoc]
    have := Nat.mul_le_mul_right P h1
    omega
  have h3 : gs * r < V := by
    have h4 : gs * r ≤ gs * P := Nat.mul_le_mul_left _ (by omega)
    have h5 : gs * P ≤ B * P := Nat.mul_le_mul_right _ (by rw [h.hB]; omega)
    have h6 : B * P ≤ vh * B * P := by
      have : 1 * (B * P) ≤ vh * (B * P) := Nat.mul_le_mul_right _ (by have := h.hvh; omega)
      rw [Nat.mul_assoc]
      omega
    have h7 : vh * B * P ≤ V := by
      rw [hr, Nat.add_mul]
      omega
    have h8 : gs * r < B * P ∨ gs * r = 0 := by
      rcases Nat.eq_zero_or_pos gs with rfl | hgp
      · right; simp
      · left
        have : gs * r < gs * P := Nat.mul_lt_mul_of_pos_left hrp hgp
        omega
    rcases h8 with h8 | h8
    · omega
    · rw [h8]; exact h.pos
  have h4 : gs * V < U + V := by omega
  have h5 : U < (U / V + 1) * V := by
    have := Nat.lt_div_mul_add h.pos (a := U)
    rw [Nat.add_mul, Nat.one_mul]
    exact this
  have h6 : gs * V < (U / V + 1 + 1) * V := by
    rw [Nat.add_mul (U / V + 1), Nat.one_mul]
    omega
  have := Nat.lt_of_mul_lt_mul_right h6
  omega

/-- one word of the number times the guess, taken off -/
theorem off_step {ul vl : List Nat} {j i gs x y V0 bo cy d bo' cy' W : Nat} (hi : j + i < ul.length) (hx : x = ul[j + i]) (hW : W = val (vl.take i)) (hW' : val (vl.take (i + 1)) = W + 4294967296 ^ i * y)
    (hV : val ul + 4294967296 ^ j * (gs * W) = V0 + 4294967296 ^ (j + i) * (bo + cy)) (he : d + (cy + gs * y) + bo = x + 4294967296 * (bo' + cy')) :
    val (ul.set (j + i) d) + 4294967296 ^ j * (gs * val (vl.take (i + 1))) = V0 + 4294967296 ^ (j + (i + 1)) * (bo' + cy') := by
  have h1 := val_set ul (j + i) d hi
  rw [← hx] at h1
  rw [hW', Nat.mul_add, Nat.mul_add, ← Nat.add_assoc j, Nat.pow_succ, Nat.mul_assoc]
  have h2 : 4294967296 ^ j * (gs * (4294967296 ^ i * y)) = 4294967296 ^ (j + i) * (gs * y) := by
    rw [Nat.pow_add, Nat.mul_left_comm gs, Nat.mul_assoc]
  rw [h2]
  have h3 : 4294967296 ^ (j + i) * d + 4294967296 ^ (j + i) * cy + 4294967296 ^ (j + i) * (gs * y) + 4294967296 ^ (j + i) * bo = 4294967296 ^ (j + i) * x + 4294967296 ^ (j + i) * (4294967296 * (bo' + cy')) := by
    rw [← Nat.mul_add, ← Nat.mul_add, ← Nat.mul_add, ← Nat.mul_add]
    congr 1
    omega
  rw [Nat.mul_add (4294967296 ^ (j + i)) bo cy] at hV
  omega
/-- one word put back -/
theorem back_step {ul vl : List Nat} {j i x y V0 bk t W : Nat} (hi : j + i < ul.length) (hx : x = ul[j + i]) (hW : W = val (vl.take i)) (hW' : val (vl.take (i + 1)) = W + 4294967296 ^ i * y)
    (hV : val ul + 4294967296 ^ (j + i) * bk = V0 + 4294967296 ^ j * W) (ht : t = bk + x + y) :
    val (ul.set (j + i) (t % 4294967296)) + 4294967296 ^ (j + (i + 1)) * (t / 4294967296) = V0 + 4294967296 ^ j * val (vl.take (i + 1)) := by
  have h1 := val_set ul (j + i) (t % 4294967296) hi
  rw [← hx] at h1
  rw [hW', Nat.mul_add, ← Nat.add_assoc j, Nat.pow_succ, Nat.mul_assoc]
  have h2 : 4294967296 ^ j * (4294967296 ^ i * y) = 4294967296 ^ (j + i) * y := by rw [Nat.pow_add, Nat.mul_assoc]
  rw [h2]
  have h3 : 4294967296 ^ (j + i) * (t % 4294967296) + 4294967296 ^ (j + i) * (4294967296 * (t / 4294967296)) = 4294967296 ^ (j + i) * bk + 4294967296 ^ (j + i) * x + 4294967296 ^ (j + i) * y := by
    rw [← Nat.mul_add, Nat.mod_add_div, ht, Nat.mul_add, Nat.mul_add]
  omega
theorem take_more (vl : List Nat) (i : Nat) (y : Nat) (hy : (∃ h : i < vl.length, y = vl[i]) ∨ (vl.length ≤ i ∧ y = 0)) : val (vl.take (i + 1)) = val (vl.take i) + 4294967296 ^ i * y := by
  rcases hy with ⟨h, rfl⟩ | ⟨h, rfl⟩
  · exact val_take h
  · rw [List.take_of_length_le h, List.take_of_length_le (by omega)]; simp
/-- behind both loops: what the digit's window holds -/
theorem win {ul ul' : List Nat} {j k : Nat} (hl : ul'.length = ul.length) (hj : j + k + 1 ≤ ul.length) (ht : ul'.take j = ul.take j) {a b : Nat} (h : val ul' + 4294967296 ^ j * a = val ul + 4294967296 ^ (j + (k + 1)) * b) :
    val (ul'.drop j) + a = val (ul.drop j) + 4294967296 ^ (k + 1) * b := by
  rw [val_split ul j (by omega), val_split ul' j (by omega), ht, Nat.pow_add, Nat.mul_assoc] at h
  have h2 : 4294967296 ^ j * (val (ul'.drop j) + a) = 4294967296 ^ j * (val (ul.drop j) + 4294967296 ^ (k + 1) * b) := by
    rw [Nat.mul_add, Nat.mul_add]
    omega
  exact Nat.eq_of_mul_eq_mul_left (Nat.pow_pos (by decide)) h2
theorem win_lt {ul ul' : List Nat} {j k : Nat} (hl : ul'.length = ul.length) (hj : j + k + 1 ≤ ul.length) (hw : IsW ul') (hd : ul'.drop (j + (k + 1)) = ul.drop (j + (k + 1))) (hU : val (ul.drop j) < 4294967296 ^ (k + 1)) :
    val (ul'.drop j) < 4294967296 ^ (k + 1) := by
  have h1 := val_split (ul.drop j) (k + 1) (by rw [List.length_drop]; omega)
  rw [List.drop_drop] at h1
  have h2 := val_split (ul'.drop j) (k + 1) (by rw [List.length_drop]; omega)
  rw [List.drop_drop] at h2
  have hz : val (ul.drop (j + (k + 1))) = 0 := by
    refine Nat.eq_zero_of_not_pos fun hp => ?_
    have : 4294967296 ^ (k + 1) * 1 ≤ 4294967296 ^ (k + 1) * val (ul.drop (j + (k + 1))) := Nat.mul_le_mul_left _ hp
    omega
  have h3 := val_lt_len ((hw.drop j).take (k + 1)) (n := k + 1) (by rw [List.length_take]; omega)
  rw [hd, hz, Nat.mul_zero] at h2
  omega
theorem off_end0 {U V gs U' M : Nat} (hq : U / V ≤ gs) (hV : 0 < V) (h : U' + gs * V = U + M * 0) : gs = U / V ∧ U' = U % V := by
  have h1 : gs ≤ U / V := by
    rw [Nat.le_div_iff_mul_le hV]
    omega
  have e : gs = U / V := by omega
  subst e
  refine ⟨rfl, ?_⟩
  have := Nat.div_add_mod U V
  rw [Nat.mul_comm] at this
  omega
theorem off_end1 {U V gs U' M : Nat} (hq : U / V ≤ gs) (hq1 : gs ≤ U / V + 1) (h : U' + gs * V = U + M * 1) (hlt : U' < M) : gs = U / V + 1 ∧ U' + V = U % V + M := by
  have hm := Nat.div_add_mod U V
  rw [Nat.mul_comm] at hm
  have e : gs = U / V + 1 := by
    refine Nat.le_antisymm hq1 (Nat.lt_of_le_of_ne hq fun e => ?_)
    subst e
    omega
  subst e
  refine ⟨rfl, ?_⟩
  rw [Nat.add_mul, Nat.one_mul] at h
  omega
theorem back_end {V R U'' bk M : Nat} (h : U'' + M * bk = R + M) (hR : R < V) (hVM : V < M) (hlt : U'' < M) : U'' = R := by
  rcases Nat.lt_trichotomy bk 1 with hb | rfl | hb
  · obtain rfl : bk = 0 := by omega
    omega
  · omega
  · have : M * 2 ≤ M * bk := Nat.mul_le_mul_left _ hb
    omega
theorem kn_of {ul vl : List Nat} {j k vh v2 u0 u1 u2 : Nat} (hv : vl.length = k + 2) (hj : j + k + 2 < ul.length) (hwu : IsW ul) (hwv : IsW vl) (hvh : vh = vl[k + 1]) (hv2 : v2 = vl[k]) (hu0 : u0 = ul[j + (k + 2)]) (hu1 : u1 = ul[j + (k + 1)]) (hu2 : u2 = ul[j + k]) (htop : 2147483648 ≤ vh)
    (hUV : val (ul.drop j) < 4294967296 * val vl) : Kn (val (ul.drop j)) (val vl) vh v2 (u0 * 4294967296 + u1) u2 (4294967296 ^ k) 4294967296 := by
  have hV : val vl = val (vl.take k) + 4294967296 ^ k * (v2 + 4294967296 * vh) := by
    rw [val_split vl k (by omega), val_drop (by omega : k < vl.length), val_drop (by omega : k + 1 < vl.length), List.drop_eq_nil_of_le (by omega : vl.length ≤ k + 1 + 1), val, hvh, hv2]
    simp
  have hvlt := val_lt_len (hwv.take k) (n := k) (by rw [List.length_take]; omega)
  have hUs : val (ul.drop j) = val ((ul.drop j).take k) + 4294967296 ^ k * (u2 + 4294967296 * (u1 + 4294967296 * (u0 + 4294967296 * val (ul.drop (j + k + 3))))) := by
    rw [val_split (ul.drop j) k (by rw [List.length_drop]; omega), List.drop_drop, val_drop (by omega : j + k < ul.length), val_drop (by omega : j + k + 1 < ul.length), val_drop (by omega : j + k + 1 + 1 < ul.length), hu0, hu1, hu2]
    simp only [Nat.add_assoc]
  have hult := val_lt_len ((hwu.drop j).take k) (n := k) (by rw [List.length_take]; omega)
  have hVlt := val_lt_len hwv (n := k + 2) (by omega)
  have hz : val (ul.drop (j + k + 3)) = 0 := by
    refine Nat.eq_zero_of_not_pos fun hp => ?_
    have h1 : 4294967296 * val vl ≤ 4294967296 * 4294967296 ^ (k + 2) := Nat.mul_le_mul_left _ (Nat.le_of_lt hVlt)
    have h2 : 4294967296 * 4294967296 ^ (k + 2) = 4294967296 ^ k * (4294967296 * (4294967296 * 4294967296)) := by
      rw [Nat.pow_add, Nat.mul_left_comm]
    have h3 : 4294967296 ^ k * (4294967296 * (4294967296 * 4294967296)) ≤ 4294967296 ^ k * (u2 + 4294967296 * (u1 + 4294967296 * (u0 + 4294967296 * val (ul.drop (j + k + 3))))) := Nat.mul_le_mul_left _ (by omega)
    omega
  rw [hz] at hUs
  refine ⟨rfl, Nat.pow_pos (by decide), ⟨_, ?_, hvlt⟩, ⟨_, ?_, hult⟩, htop, by rw [hv2]; exact hwv _ (List.getElem_mem _), by rw [hu2]; exact hwu _ (List.getElem_mem _), hUV⟩
  · rw [hV, Nat.add_comm, Nat.mul_comm (4294967296 ^ k), Nat.mul_comm vh, Nat.add_comm v2]
  · rw [hUs, Nat.add_comm, Nat.mul_comm (4294967296 ^ k)]
    congr 2
    omega
end Go.Proofs.YtjbdadhggejoiaaGreatDoor

namespace Go.Proofs.YtjbdadhggejoiaaGreatDoor
open Go.RowKit
set_option maxRecDepth 100000

theorem up_or {x cy s t : Nat} (hx : x < 4294967296) (hs : s < 32) (hc : cy < 2 ^ s) (ht : t = x * 2 ^ s + cy) : bits .or .u64 (IntKind.u64.wrap ((x : Int) * 2 ^ s)) (cy : Int) = (t : Int) := by
  have e : ((x : Int) * 2 ^ s) = ((x * 2 ^ s : Nat) : Int) := by rw [Int.natCast_mul, Int.natCast_pow]; rfl
  have h2 : 2 ^ s ≤ 2 ^ 31 := Nat.pow_le_pow_right (by decide) (by omega)
  have h3 : (2 : Nat) ^ 31 = 2147483648 := by decide
  have hb : x * 2 ^ s ≤ 4294967295 * 2147483648 := Nat.mul_le_mul (by omega) (by omega)
  have ew : IntKind.u64.wrap ((x * 2 ^ s : Nat) : Int) = ((x * 2 ^ s : Nat) : Int) := by
    generalize x * 2 ^ s = y at hb
    show ((y : Int)) % 18446744073709551616 = _
    omega
  rw [e, ew, u64_or_nat _ _ (by omega) (by omega), ht, Nat.mul_comm x, Nat.two_pow_add_eq_or_of_lt hc]
theorem up_parts {x cy s t : Nat} (hx : x < 4294967296) (hs : s < 32) (hc : cy < 2 ^ s) (ht : t = x * 2 ^ s + cy) : t % 4294967296 = 2 ^ s * (x % 2 ^ (32 - s)) + cy ∧ t / 4294967296 = x * 2 ^ s / 4294967296 := by
  have h1 := shl_mod (x := x) hs
  have h2 : 2 ^ s * (x % 2 ^ (32 - s)) + 2 ^ s ≤ 4294967296 := by
    have : 2 ^ s * (x % 2 ^ (32 - s)) + 2 ^ s ≤ 2 ^ s * 2 ^ (32 - s) := by
      rw [← Nat.mul_succ]
      exact Nat.mul_le_mul_left _ (Nat.mod_lt _ (Nat.two_pow_pos _))
    rwa [← Nat.pow_add, show s + (32 - s) = 32 by omega] at this
  omega

set_option maxHeartbeats 400000 in
theorem cup_calls (A : Option Addr) (c n k : Nat) (w : World) (hc : (words n).length ≤ c) (hl : (words n).length ≤ 1073741824) (hk : k ≤ 1073741824) (h : Ws w w.heap.size A (words n)) :
    Calls Tryz.prog 27 #[.slice A (words n).length c, .int .i64 k] w fun e w' => NDone w (n * 2 ^ k) e w' := by
  obtain ⟨i0, hi0, hz0, hz1, hz2⟩ := info_parts wordInfo
  have HH := Lib.hid h
  clear h
  by_cases h0 : n = 0
  · subst h0
    have hx : NDone w (0 * 2 ^ k) (.returned (.slice none 0 0)) w := by
      rw [Nat.zero_mul]
      exact ⟨none, 0, rfl, Nat.le_refl _, by decide, Ws.nil, Below.refl _ _⟩
    have HX := Lib.hid hx
    clear hx
    have e0 : (words 0).length = 0 := rfl
    rw [e0]
    go_enter Tryz.func27, Tryz.ntmps27
    go_wp2
    go_ret
    exact HX.out
  · obtain ⟨l, hln⟩ : ∃ l, l = words n := ⟨_, rfl⟩
    rw [← hln] at HH hl hc ⊢
    have hpos : 0 < l.length := by
      refine Nat.pos_of_ne_zero fun e => h0 ?_
      have := val_words n
      rw [← hln, List.eq_nil_of_length_eq_zero e] at this
      exact this.symm
    have Hl := Lib.hid hln
    clear hln
    go_enter Tryz.func27, Tryz.ntmps27
    go_wp2_with (at_make; go_loud (refine wpList_make_len _ (by rfl) _ _ 28 (by rfl) w.heap.size 51 i0 (.int .u32 0) Tryz.underlying28 hi0 hz0 hz1 rfl .i64 .i64 _ _ (k / 32) (k / 32) (by rfl) (by rfl) (by omega) (by omega) (by omega) (by rw [hz2]; omega) (by unfold maxLen; omega) (Nat.le_refl _) ?_; intro w0 hown0 hgrow0))
    go_loopw [5, 7, 8] (fun v5 v7 i wr => ∃ (j cy : Nat) (out : List Nat), j ≤ l.length ∧ i = .int .i64 j ∧ v7 = .int .u32 cy ∧ cy < 2 ^ (k % 32) ∧ Hid (wr.ownsRow w.heap.size 51 1 v5 (k / 32 + j) (uCells (List.replicate (k / 32) 0 ++ out))) ∧ out.length = j ∧ Hid (IsW out ∧ val out + 4294967296 ^ j * cy = 2 ^ (k % 32) * val (l.take j)) ∧ Below w.heap.size w wr) (fun _ _ i _ => l.length - (intOf i).toNat)
    case atStart => exact ⟨0, 0, [], by omega, rfl, rfl, Nat.two_pow_pos _, (show World.ownsRow _ _ _ _ _ _ _ by simpa [uCells, U] using hown0), rfl, ⟨fun x hx => (by cases hx), by simp [val]⟩, (Below.refl _ _).grown hgrow0 (Nat.le_refl _) (fun k h => by cases h)⟩
    case round =>
      clear hown0 hgrow0
      obtain ⟨j, cy, out, hj, rfl, rfl, hcy, hO, hol, hV, hb⟩ := hrel
      by_cases hlt : j < l.length
      · obtain ⟨ad, rfl, hab, h1⟩ := HH.out.at_ j hlt
        have g1 : wr.cell? (ad.add j) = some (.int .u32 (l[j] : Nat)) := (hb.cell (by rw [addr_block]; exact hab)).trans h1
        obtain ⟨x, hx⟩ : ∃ x, x = l[j] := ⟨_, rfl⟩
        rw [← hx] at g1
        have hxw : x < 4294967296 := by rw [hx]; have := words_isW n; rw [← Hl.out] at this; exact this _ (List.getElem_mem hlt)
        have Hx := Lib.hid hx
        clear hx h1
        have hcy2 : cy < 4294967296 := Nat.lt_of_lt_of_le hcy (by
          have : 2 ^ (k % 32) ≤ 2 ^ 32 := Nat.pow_le_pow_right (by decide) (by omega)
          exact this)
        have hcw : IntKind.u64.wrap (cy : Int) = (cy : Int) := by
          show ((cy : Int)) % 18446744073709551616 = _
          omega
        obtain ⟨t, ht⟩ : ∃ t, t = x * 2 ^ (k % 32) + cy := ⟨_, rfl⟩
        have hor : bits .or .u64 (IntKind.u64.wrap ((x : Int) * 2 ^ (k % 32))) (cy : Int) = (t : Int) := up_or hxw (by omega) hcy ht
        have htp := up_parts hxw (by omega) hcy ht
        obtain ⟨d, hd⟩ : ∃ d, d = 2 ^ (k % 32) * (x % 2 ^ (32 - k % 32)) + cy := ⟨_, rfl⟩
        rw [← hd] at htp
        have hst := shl_step hlt Hx.out (by omega) hcy hol hd hV.out
        have htb : t < 18446744073709551616 := by
          have h2 : 2 ^ (k % 32) ≤ 2 ^ 31 := Nat.pow_le_pow_right (by decide) (by omega)
          have h3 : (2 : Nat) ^ 31 = 2147483648 := by decide
          have hb : x * 2 ^ (k % 32) ≤ 4294967295 * 2147483648 := Nat.mul_le_mul (by omega) (by omega)
          omega
        have htop := shl_top (s := k % 32) hxw
        rw [← htp.2] at hst htop
        have hd1 := htp.1
        have Hd := Lib.hid hd1
        have HS := Lib.hid hst
        clear hd ht htp hst hd1
        go_wp2_with (at_builtin; (refine wpList_append_own_at _ (by rfl) (.tmp 35) (.tmp 38) 28 (by rfl) w.heap.size 51 i0 _ 1 4 Tryz.underlying28 hi0 hz0 hz1 hz2 rfl (by omega) _ (k / 32 + j) (uCells (List.replicate (k / 32) 0 ++ out)) (by rfl) (hO.out.alloc _) ⟨wr.heap.size, 0, none⟩ 1 1 [.int .u32 ((t : Int) % 4294967296)] (by rfl) (by rfl) (news_next #[.int .u32 ((t : Int) % 4294967296)] 51 (by simp)) (by simp [Value.oneCell']) (by simp only [maxLen]; omega) (by omega) (by simp; have := hb.size; omega) ?_); intro v3 w3 hown1 hgrow hnil hat)
        go_roundw
        case rel =>
          have hd2 := Hd.out
          have ho := u_snoc (d := d) hown1 (by omega)
          rw [List.append_assoc] at ho
          exact ⟨j + 1, t / 4294967296, out ++ [d], by omega, by go_num, congrArg (Value.int .u32) (by omega), htop, ho, by simp [hol], HS.out, below_app0 hb hgrow hb.size (fun k hk => (hO.out.lt _ hk).1)⟩
        case measure => simp [intOf]; omega
      · obtain rfl : j = l.length := by omega
        have hfin : val (List.replicate (k / 32) 0 ++ out ++ [cy]) = n * 2 ^ k := by
          have h1 := hV.out.2
          rw [List.take_length, Hl.out, val_words] at h1
          rw [List.append_assoc, val_append, val_zeros, List.length_replicate, val_snoc, hol, Hl.out, h1, Nat.zero_add]
          have h2 : (4294967296 : Nat) ^ (k / 32) = 2 ^ (32 * (k / 32)) := by rw [Nat.pow_mul]
          have h3 : 2 ^ k = 2 ^ (32 * (k / 32)) * 2 ^ (k % 32) := by rw [← Nat.pow_add, Nat.div_add_mod]
          rw [h2, h3, Nat.mul_comm n, Nat.mul_assoc]
        have hcy2 : cy < 4294967296 := Nat.lt_of_lt_of_le hcy (by
          have : 2 ^ (k % 32) ≤ 2 ^ 32 := Nat.pow_le_pow_right (by decide) (by omega)
          exact this)
        have hiw : IsW (List.replicate (k / 32) 0 ++ out ++ [cy]) := by
          refine IsW.snoc (fun y hy => ?_) hcy2
          rcases List.mem_append.1 hy with hy | hy
          · have := (List.mem_replicate.1 hy).2; omega
          · exact hV.out.1 y hy
        have HF := Lib.hid hfin
        have HI := Lib.hid hiw
        clear hfin hiw hcy
        go_wp2_with (at_builtin; (refine wpList_append_own_at _ (by rfl) (.tmp 43) (.tmp 45) 28 (by rfl) w.heap.size 51 i0 _ 1 4 Tryz.underlying28 hi0 hz0 hz1 hz2 rfl (by omega) _ (k / 32 + l.length) (uCells (List.replicate (k / 32) 0 ++ out)) (by rfl) (hO.out.alloc _) ⟨wr.heap.size, 0, none⟩ 1 1 [.int .u32 cy] (by rfl) (by rfl) (news_next #[.int .u32 cy] 51 (by simp)) (by simp [Value.oneCell']) (by simp only [maxLen]; omega) (by omega) (by simp; have := hb.size; omega) ?_); intro v3 w3 hown1 hgrow hnil hat)
        have hb3 := below_app0 hb hgrow hb.size (fun k hk => (hO.out.lt _ hk).1)
        have ho := u_snoc (d := cy) hown1 rfl
        obtain ⟨X, cx, rfl, hcx, hcm, hX⟩ := own_slice1 ho.out
        have hlen : (List.replicate (k / 32) 0 ++ out ++ [cy]).length = k / 32 + l.length + 1 := by simp [hol]; omega
        have hX2 : Ws w3 w3.heap.size X (List.replicate (k / 32) 0 ++ out ++ [cy]) := by unfold Ws; rw [hlen]; exact hX
        have ht := ctrim_calls X cx w3.heap.size _ w3 (by rw [hlen]; exact hcx) (by rw [hlen]; omega) HI.out hX2
        rw [hlen, HF.out] at ht
        have HT := Lib.hid ht
        clear ht hX hX2 hlen ho hat hnil hgrow hown1
        go_wp2_with fail
        refine HT.out.mono ?_
        rintro e w2 ⟨rfl, hw2, hc3, rfl⟩
        have hd : NDone w (n * 2 ^ k) (.returned (.slice X (words (n * 2 ^ k)).length cx)) w2 := ⟨X, cx, rfl, hc3, hcm, hw2, hb3⟩
        have HD := Lib.hid hd
        clear hd
        go_wp2
        go_ret
        exact HD.out
end Go.Proofs.YtjbdadhggejoiaaGreatDoor

namespace Go.Proofs.YtjbdadhggejoiaaGreatDoor
open Go.RowKit
set_option maxRecDepth 100000

set_option maxHeartbeats 4000000 in
theorem cproduct_calls (A A2 : Option Addr) (c c2 n m : Nat) (w : World) (hc : (words n).length ≤ c) (hc2 : (words m).length ≤ c2) (hl : (words n).length ≤ 1073741824) (hl2 : (words m).length ≤ 1073741824) (h : Ws w w.heap.size A (words n)) (h2 : Ws w w.heap.size A2 (words m)) :
    Calls Tryz.prog 33 #[.slice A (words n).length c, .slice A2 (words m).length c2] w fun e w' => NDone w (n * m) e w' := by
  obtain ⟨i0, hi0, hz0, hz1, hz2⟩ := info_parts wordInfo
  have HH := Lib.hid h; have H2 := Lib.hid h2
  clear h h2
  have hnz : ∀ n, (words n).length = 0 → n = 0 := fun n e => by
    have := val_words n
    rw [List.eq_nil_of_length_eq_zero e] at this
    exact this.symm
  by_cases h0 : (words n).length = 0 ∨ (words m).length = 0
  · have hx : NDone w (n * m) (.returned (.slice none 0 0)) w := by
      have : n * m = 0 := by
        rcases h0 with h | h
        · rw [hnz _ h, Nat.zero_mul]
        · rw [hnz _ h, Nat.mul_zero]
      rw [this]
      exact ⟨none, 0, rfl, Nat.le_refl _, by decide, Ws.nil, Below.refl _ _⟩
    have HX := Lib.hid hx
    clear hx hnz
    obtain ⟨L, hL⟩ : ∃ L, L = (words n).length := ⟨_, rfl⟩
    obtain ⟨L2, hL2⟩ : ∃ L, L = (words m).length := ⟨_, rfl⟩
    rw [← hL] at hl hc h0 ⊢
    rw [← hL2] at hl2 hc2 h0 ⊢
    clear hL hL2
    rcases Nat.eq_zero_or_pos L with rfl | hLp
    · go_enter Tryz.func33, Tryz.ntmps33
      go_wp2
      go_ret
      exact HX.out
    · obtain rfl : L2 = 0 := by omega
      go_enter Tryz.func33, Tryz.ntmps33
      go_wp2
      go_ret
      exact HX.out
  · obtain ⟨l, hln⟩ : ∃ l, l = words n := ⟨_, rfl⟩
    obtain ⟨r, hrm⟩ : ∃ r, r = words m := ⟨_, rfl⟩
    rw [← hln] at HH hl hc h0 ⊢
    rw [← hrm] at H2 hl2 hc2 h0 ⊢
    have Hl := Lib.hid hln; have Hr := Lib.hid hrm
    clear hln hrm
    have hlp : 0 < l.length := by omega
    have hrp : 0 < r.length := by omega
    have hq1 : ((l.length : Int) == 0) = false := by rw [beq_eq_false_iff_ne]; omega
    have hq2 : ((r.length : Int) == 0) = false := by rw [beq_eq_false_iff_ne]; omega
    clear hnz h0
    go_enter Tryz.func33, Tryz.ntmps33
    go_wp2_with (at_make; refine wpList_make_len _ (by rfl) _ _ 28 (by rfl) w.heap.size 51 i0 (.int .u32 0) Tryz.underlying28 hi0 hz0 hz1 rfl .i64 .i64 _ _ (l.length + r.length) (l.length + r.length) (by rfl) (by rfl) (by omega) (by omega) (by omega) (by rw [hz2]; omega) (by unfold maxLen; omega) (Nat.le_refl _) ?_; intro w0 hown0 hgrow0)
    go_loopw [6] (fun i wr => ∃ (j : Nat) (out : List Nat), j ≤ l.length ∧ i = .int .i64 j ∧ Hid (wr.ownsRow w.heap.size 51 1 (.slice (some ⟨w.heap.size, 0, none⟩) (l.length + r.length) (l.length + r.length)) (l.length + r.length) (uCells out)) ∧ out.length = l.length + r.length ∧ Hid (IsW out ∧ val out = val (l.take j) * val r ∧ ∀ k (h : k < out.length), j + r.length ≤ k → out[k] = 0) ∧ Below w.heap.size w wr) (fun i _ => l.length - (intOf i).toNat)
    case atStart =>
      refine ⟨0, List.replicate (l.length + r.length) 0, by omega, rfl, (show World.ownsRow _ _ _ _ _ _ _ by simpa [uCells, U] using hown0), by simp, ⟨fun y hy => by have := (List.mem_replicate.1 hy).2; omega, by simp [val_zeros, val], fun k h _ => by simp⟩, (Below.refl _ _).grown hgrow0 (Nat.le_refl _) (fun k h => by cases h)⟩
    case round =>
      clear hown0 hgrow0
      obtain ⟨j, out, hj, rfl, hO, hol, hV, hb⟩ := hrel
      by_cases hlt : j < l.length
      · obtain ⟨ad, rfl, hab, h1⟩ := HH.out.at_ j hlt
        have g1 : wr.cell? (ad.add j) = some (.int .u32 (l[j] : Nat)) := (hb.cell (by rw [addr_block]; exact hab)).trans h1
        obtain ⟨x, hx⟩ : ∃ x, x = l[j] := ⟨_, rfl⟩
        rw [← hx] at g1 h1
        have H1 := Lib.hid h1
        have hxw : x < 4294967296 := by rw [hx]; have := words_isW n; rw [← Hl.out] at this; exact this _ (List.getElem_mem hlt)
        have Hx := Lib.hid hx
        clear hx h1
        go_wp2
        go_loopw [7, 8] (fun v8 i2 ws => ∃ (k cy : Nat) (out2 : List Nat), k ≤ r.length ∧ i2 = .int .i64 k ∧ v8 = .int .u64 cy ∧ cy < 4294967296 ∧ Hid (ws.ownsRow w.heap.size 51 1 (.slice (some ⟨w.heap.size, 0, none⟩) (l.length + r.length) (l.length + r.length)) (l.length + r.length) (uCells out2)) ∧ out2.length = l.length + r.length ∧ Hid (IsW out2 ∧ val out2 + 4294967296 ^ (j + k) * cy = val out + 4294967296 ^ j * (x * val (r.take k)) ∧ ∀ q (h : q < out2.length), j + r.length ≤ q → out2[q] = 0) ∧ Below w.heap.size w ws) (fun _ i _ => r.length - (intOf i).toNat)
        case atStart => exact ⟨0, 0, out, by omega, rfl, rfl, by omega, hO, hol, ⟨hV.out.1, by simp [val], hV.out.2.2⟩, hb⟩
        case round =>
          obtain ⟨k, cy, out2, hk, rfl, rfl, hcy, hO2, hol2, hV2, hb2⟩ := hrel
          clear g1
          by_cases hlt2 : k < r.length
          · obtain ⟨ad2, rfl, hab2, h1⟩ := H2.out.at_ k hlt2
            have g1 : wr.cell? (ad2.add k) = some (.int .u32 (r[k] : Nat)) := (hb2.cell (by rw [addr_block]; exact hab2)).trans h1
            obtain ⟨y, hy⟩ : ∃ y, y = r[k] := ⟨_, rfl⟩
            rw [← hy] at g1
            have hyw : y < 4294967296 := by rw [hy]; have := words_isW m; rw [← Hr.out] at this; exact this _ (List.getElem_mem hlt2)
            have Hy := Lib.hid hy
            clear hy h1
            have hjk : j + k < out2.length := by omega
            obtain ⟨g2, g3⟩ := own_at hO2.out (j + k) hjk
            obtain ⟨o, ho⟩ : ∃ o, o = out2[j + k] := ⟨_, rfl⟩
            rw [← ho] at g2
            have how : o < 4294967296 := by rw [ho]; exact hV2.out.1 _ (List.getElem_mem hjk)
            have Ho := Lib.hid ho
            clear ho
            obtain ⟨hm0, hm1⟩ := mul_bound hxw hyw
            have g0 : wr.cell? (ad.add j) = some (.int .u32 (x : Nat)) := (hb2.cell (by rw [addr_block]; exact hab)).trans H1.out
            go_wp2
            go_quiet (fail)
            go_wp2
            have hst := mul_step (cy := cy) (V := val out) hlt2 Hy.out hjk Ho.out hV2.out.2.1 rfl
            have e1 : ((x : Int) * (y : Int) + (o : Int) + (cy : Int)) = ((cy + (x * y + o) : Nat) : Int) := by simp; omega
            have hlt3 : cy + (x * y + o) < 4294967296 * 4294967296 := by
              have : ((x * y : Nat) : Int) ≤ 18446744065119617025 := by simpa using hm1
              omega
            rw [e1]
            refine ⟨⟨k + 1, (cy + (x * y + o)) / 4294967296, out2.set (j + k) ((cy + (x * y + o)) % 4294967296), by omega, by go_num, rfl, by omega, own_set hO2.out (j + k) _ _ (by omega), by simp [hol2], ⟨hV2.out.1.set (Nat.mod_lt _ (by decide)), hst, fun q h hq => ?_⟩, (hb2.trans ⟨rfl, rfl, rfl, Nat.le_refl _, fun _ _ => rfl⟩ : Below _ _ (wr.drewN nq)).setCell (Nat.le_refl _) _⟩, by simp [intOf]; omega⟩
            rw [List.getElem_set_ne (by omega)]
            exact hV2.out.2.2 q (by simpa using h) hq
          · obtain rfl : k = r.length := by omega
            have hjk : j + r.length < out2.length := by omega
            obtain ⟨g2, g3⟩ := own_at hO2.out (j + r.length) hjk
            go_wp2
            have hrow := mul_row (cy := cy) hlt Hx.out hjk (hV2.out.2.2 _ hjk (Nat.le_refl _)) hV.out.2.1 hV2.out.2.1
            refine ⟨⟨j + 1, out2.set (j + r.length) cy, by omega, by go_num, own_set hO2.out (j + r.length) _ _ (by omega), by simp [hol2], ⟨hV2.out.1.set hcy, hrow, fun q h hq => ?_⟩, hb2.setCell (Nat.le_refl _) _⟩, by simp [intOf]; omega⟩
            rw [List.getElem_set_ne (by omega)]
            exact hV2.out.2.2 q (by simpa using h) (by omega)
      · obtain rfl : j = l.length := by omega
        have hfin : val out = n * m := by
          rw [hV.out.2.1, List.take_length, Hl.out, Hr.out, val_words, val_words]
        obtain ⟨X, cx, hXe, hcx, hcm2, hX⟩ := own_slice1 hO.out
        obtain ⟨rfl, rfl⟩ : X = some ⟨w.heap.size, 0, none⟩ ∧ cx = l.length + r.length := by
          injection hXe with h1 h2 h3
          exact ⟨h1.symm, h3.symm⟩
        have hX2 : Ws wr wr.heap.size (some ⟨w.heap.size, 0, none⟩) out := by unfold Ws; rw [hol]; exact hX
        have HI := Lib.hid hV.out.1
        have ht := ctrim_calls _ (l.length + r.length) wr.heap.size _ wr (by omega) (by omega) HI.out hX2
        rw [hol, hfin] at ht
        have HT := Lib.hid ht
        clear ht hX hX2 hO hfin hol hXe
        go_wp2_with fail
        refine HT.out.mono ?_
        rintro e w2 ⟨rfl, hw2, hc3, rfl⟩
        have hd : NDone w (n * m) (.returned (.slice (some ⟨w.heap.size, 0, none⟩) (words (n * m)).length (l.length + r.length))) w2 := ⟨_, _, rfl, hc3, hcm2, hw2, hb⟩
        have HD := Lib.hid hd
        clear hd
        go_wp2
        go_ret
        exact HD.out
end Go.Proofs.YtjbdadhggejoiaaGreatDoor
