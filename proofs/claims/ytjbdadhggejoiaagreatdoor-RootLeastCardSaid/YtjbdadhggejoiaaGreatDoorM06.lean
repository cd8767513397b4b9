/- 'shl' is a number times a power of two.
   'shr' is a number by a power of two, cut.
   'mul' is the product.
   'zeros' is how many noughts stand behind the lowest one.
   'short' divides by a word. -/
import Derived.Test.YtjbdadhggejoiaaGreatDoorM04
import Derived.Test.YtjbdadhggejoiaaGreatDoorM05
import Derived.Laws.BitsAllLaws

namespace Go.Proofs.YtjbdadhggejoiaaGreatDoor
open Go.RowKit
set_option maxRecDepth 100000

theorem shl_or {x cy s d : Nat} (hx : x < 4294967296) (hs : s < 32) (hc : cy < 2 ^ s) (hd : d = 2 ^ s * (x % 2 ^ (32 - s)) + cy) : bits .or .u32 ((x : Int) * 2 ^ s % 4294967296) (cy : Int) = (d : Int) := by
  have e1 : x * 2 ^ s % 4294967296 = 2 ^ s * (x % 2 ^ (32 - s)) := by
    have : (4294967296 : Nat) = 2 ^ s * 2 ^ (32 - s) := by rw [← Nat.pow_add, show s + (32 - s) = 32 by omega]
    rw [this, Nat.mul_comm x, Nat.mul_mod_mul_left]
  have e2 : ((x : Int) * 2 ^ s % 4294967296) = ((2 ^ s * (x % 2 ^ (32 - s)) : Nat) : Int) := by
    rw [← e1, Int.natCast_emod, Int.natCast_mul, Int.natCast_pow]
    rfl
  have hlt : 2 ^ s * (x % 2 ^ (32 - s)) < 4294967296 := by rw [← e1]; exact Nat.mod_lt _ (by decide)
  have hc2 : cy < 4294967296 := Nat.lt_of_lt_of_le hc (by
    have : 2 ^ s ≤ 2 ^ 32 := Nat.pow_le_pow_right (by decide) (by omega)
    exact this)
  rw [e2, u32_or_nat _ _ hlt hc2, hd, Nat.two_pow_add_eq_or_of_lt hc]

theorem shl_mod {x s : Nat} (hs : s < 32) : x * 2 ^ s % 4294967296 = 2 ^ s * (x % 2 ^ (32 - s)) := by
  have : (4294967296 : Nat) = 2 ^ s * 2 ^ (32 - s) := by rw [← Nat.pow_add, show s + (32 - s) = 32 by omega]
  rw [this, Nat.mul_comm x, Nat.mul_mod_mul_left]
theorem shl_top {x s : Nat} (hx : x < 4294967296) : x * 2 ^ s / 4294967296 < 2 ^ s := by
  rw [Nat.div_lt_iff_lt_mul (by decide), Nat.mul_comm]
  exact Nat.mul_lt_mul_of_pos_left hx (Nat.two_pow_pos s)
theorem shl_carry {x s : Nat} (hx : x < 4294967296) (hs : s < 32) : IntKind.u64.wrap ((x : Int) * 2 ^ s) / 4294967296 % 4294967296 = ((x * 2 ^ s / 4294967296 : Nat) : Int) := by
  have e : ((x : Int) * 2 ^ s) = ((x * 2 ^ s : Nat) : Int) := by rw [Int.natCast_mul, Int.natCast_pow]; rfl
  have ht := shl_top (s := s) hx
  have h2 : 2 ^ s ≤ 2 ^ 31 := Nat.pow_le_pow_right (by decide) (by omega)
  have h3 : (2 : Nat) ^ 31 = 2147483648 := by decide
  rw [e]
  generalize x * 2 ^ s = y at ht ⊢
  have ew : ∀ z : Int, IntKind.u64.wrap z = z % 18446744073709551616 := fun _ => rfl
  rw [ew]
  omega
theorem shl_step {l out : List Nat} {j cy x s d : Nat} (hj : j < l.length) (hx : x = l[j]) (hs : s < 32) (hc : cy < 2 ^ s) (hout : out.length = j) (hd : d = 2 ^ s * (x % 2 ^ (32 - s)) + cy)
    (hV : IsW out ∧ val out + 4294967296 ^ j * cy = 2 ^ s * val (l.take j)) :
    IsW (out ++ [d]) ∧ val (out ++ [d]) + 4294967296 ^ (j + 1) * (x * 2 ^ s / 4294967296) = 2 ^ s * val (l.take (j + 1)) := by
  have hm := shl_mod (x := x) hs
  have hdm : d + 4294967296 * (x * 2 ^ s / 4294967296) = x * 2 ^ s + cy := by
    have := Nat.mod_add_div (x * 2 ^ s) 4294967296
    omega
  have hdl : d < 4294967296 := by
    have h1 : 2 ^ s * (x % 2 ^ (32 - s)) + 2 ^ s ≤ 2 ^ s * 2 ^ (32 - s) := by
      rw [← Nat.mul_succ]
      exact Nat.mul_le_mul_left _ (Nat.mod_lt _ (Nat.two_pow_pos _))
    have h2 : 2 ^ s * 2 ^ (32 - s) = 4294967296 := by rw [← Nat.pow_add, show s + (32 - s) = 32 by omega]
    omega
  refine ⟨hV.1.snoc hdl, ?_⟩
  rw [val_snoc, hout, val_take hj, ← hx, Nat.pow_succ, Nat.mul_assoc, Nat.add_assoc, ← Nat.mul_add, hdm, Nat.mul_add, Nat.mul_add, ← hV.2]
  have : 4294967296 ^ j * (x * 2 ^ s) = 2 ^ s * (4294967296 ^ j * x) := by
    rw [Nat.mul_comm x, ← Nat.mul_assoc, ← Nat.mul_assoc, Nat.mul_comm (4294967296 ^ j)]
  omega

set_option maxHeartbeats 400000 in
theorem nshl_calls (A : Option Addr) (c n k : Nat) (w : World) (hc : (words n).length ≤ c) (hl : (words n).length ≤ 1073741824) (hk : k ≤ 1073741824) (h : Ws w w.heap.size A (words n)) :
    Calls Tryz.prog 133 #[.slice A (words n).length c, .int .u64 k] w fun e w' => NDone w (n * 2 ^ k) e w' := by
  obtain ⟨i0, hi0, hz0, hz1, hz2⟩ := info_parts wordInfo
  have HH := Lib.hid h
  clear h
  by_cases h0 : n = 0
  · subst h0
    have hx : NDone w (0 * 2 ^ k) (.returned (.slice none 0 0)) w := by
      rw [Nat.zero_mul]
      exact ⟨none, 0, rfl, Nat.le_refl _, by decide, Ws.nil, Below.refl _ _⟩
    have HX := Lib.hid hx
    clear hx
    have e0 : (words 0).length = 0 := rfl
    rw [e0]
    go_enter Tryz.func133, Tryz.ntmps133
    go_wp2
    go_ret
    exact HX.out
  · obtain ⟨l, hln⟩ : ∃ l, l = words n := ⟨_, rfl⟩
    rw [← hln] at HH hl hc ⊢
    have hpos : 0 < l.length := by
      refine Nat.pos_of_ne_zero fun e => h0 ?_
      have := val_words n
      rw [← hln, List.eq_nil_of_length_eq_zero e] at this
      exact this.symm
    have Hl := Lib.hid hln
    clear hln
    go_enter Tryz.func133, Tryz.ntmps133
    go_wp2_with (at_make; refine wpList_make_len _ (by rfl) _ _ 104 (by rfl) w.heap.size 51 i0 (.int .u32 0) Tryz.underlying104 hi0 hz0 hz1 rfl .i64 .i64 _ _ (k / 32) (l.length + k / 32 + 1) (by rfl) (by rfl) (by omega) (by omega) (by omega) (by rw [hz2]; omega) (by unfold maxLen; omega) (Nat.le_refl _) ?_; intro w0 hown0 hgrow0)
    go_loopw [5, 7, 28] (fun v5 v7 i wr => ∃ (j cy : Nat) (out : List Nat), j ≤ l.length ∧ i = .int .i64 j ∧ v7 = .int .u32 cy ∧ cy < 2 ^ (k % 32) ∧ Hid (wr.ownsRow w.heap.size 51 1 v5 (k / 32 + j) (uCells (List.replicate (k / 32) 0 ++ out))) ∧ out.length = j ∧ Hid (IsW out ∧ val out + 4294967296 ^ j * cy = 2 ^ (k % 32) * val (l.take j)) ∧ Below w.heap.size w wr) (fun _ _ i _ => l.length - (intOf i).toNat)
    case atStart => exact ⟨0, 0, [], by omega, rfl, rfl, Nat.two_pow_pos _, (show World.ownsRow _ _ _ _ _ _ _ by simpa [uCells, U] using hown0), rfl, ⟨fun x hx => (by cases hx), by simp [val]⟩, (Below.refl _ _).grown hgrow0 (Nat.le_refl _) (fun k h => by cases h)⟩
    case round =>
      clear hown0 hgrow0
      obtain ⟨j, cy, out, hj, rfl, rfl, hcy, hO, hol, hV, hb⟩ := hrel
      by_cases hlt : j < l.length
      · obtain ⟨ad, rfl, hab, h1⟩ := HH.out.at_ j hlt
        have g1 : wr.cell? (ad.add j) = some (.int .u32 (l[j] : Nat)) := (hb.cell (by rw [addr_block]; exact hab)).trans h1
        obtain ⟨x, hx⟩ : ∃ x, x = l[j] := ⟨_, rfl⟩
        rw [← hx] at g1
        have hxw : x < 4294967296 := by rw [hx]; have := words_isW n; rw [← Hl.out] at this; exact this _ (List.getElem_mem hlt)
        have Hx := Lib.hid hx
        clear hx h1
        obtain ⟨d, hd⟩ : ∃ d, d = 2 ^ (k % 32) * (x % 2 ^ (32 - k % 32)) + cy := ⟨_, rfl⟩
        have hor : bits .or .u32 ((x : Int) * 2 ^ (k % 32) % 4294967296) (cy : Int) = (d : Int) := shl_or hxw (by omega) hcy hd
        have Hd := Lib.hid hd
        clear hd
        go_wp2_with (at_builtin; (refine wpList_append_own_at _ (by rfl) (.tmp 32) (.tmp 38) 104 (by rfl) w.heap.size 51 i0 _ 1 4 Tryz.underlying104 hi0 hz0 hz1 hz2 rfl (by omega) _ (k / 32 + j) (uCells (List.replicate (k / 32) 0 ++ out)) (by rfl) (hO.out.alloc _) ⟨wr.heap.size, 0, none⟩ 1 1 [.int .u32 d] (by rfl) (by rfl) (news_next #[.int .u32 d] 51 (by simp)) (by simp [Value.oneCell']) (by simp only [maxLen]; omega) (by omega) (by simp; have := hb.size; omega) ?_); intro v3 w3 hown1 hgrow hnil hat)
        go_roundw
        case rel =>
          have hst := shl_step hlt Hx.out (by omega) hcy hol Hd.out hV.out
          have ho := u_snoc (d := d) hown1 rfl
          rw [List.append_assoc] at ho
          exact ⟨j + 1, x * 2 ^ (k % 32) / 4294967296, out ++ [d], by omega, by go_num, congrArg (Value.int .u32) (shl_carry hxw (by omega)), shl_top hxw, ho, by simp [hol], hst, below_app0 hb hgrow hb.size (fun k hk => (hO.out.lt _ hk).1)⟩
        case measure => simp [intOf]; omega
      · obtain rfl : j = l.length := by omega
        have hfin : val (List.replicate (k / 32) 0 ++ out ++ [cy]) = n * 2 ^ k := by
          have h1 := hV.out.2
          rw [List.take_length, Hl.out, val_words] at h1
          rw [List.append_assoc, val_append, val_zeros, List.length_replicate, val_snoc, hol, Hl.out, h1, Nat.zero_add]
          have h2 : (4294967296 : Nat) ^ (k / 32) = 2 ^ (32 * (k / 32)) := by rw [Nat.pow_mul]
          have h3 : 2 ^ k = 2 ^ (32 * (k / 32)) * 2 ^ (k % 32) := by rw [← Nat.pow_add, Nat.div_add_mod]
          rw [h2, h3, Nat.mul_comm n, Nat.mul_assoc]
        have hcy2 : cy < 4294967296 := Nat.lt_of_lt_of_le hcy (by
          have : 2 ^ (k % 32) ≤ 2 ^ 32 := Nat.pow_le_pow_right (by decide) (by omega)
          exact this)
        have hiw : IsW (List.replicate (k / 32) 0 ++ out ++ [cy]) := by
          refine IsW.snoc (fun y hy => ?_) hcy2
          rcases List.mem_append.1 hy with hy | hy
          · have := (List.mem_replicate.1 hy).2; omega
          · exact hV.out.1 y hy
        have HF := Lib.hid hfin
        have HI := Lib.hid hiw
        clear hfin hiw hcy
        go_wp2_with (at_builtin; (refine wpList_append_own_at _ (by rfl) (.tmp 47) (.tmp 49) 104 (by rfl) w.heap.size 51 i0 _ 1 4 Tryz.underlying104 hi0 hz0 hz1 hz2 rfl (by omega) _ (k / 32 + l.length) (uCells (List.replicate (k / 32) 0 ++ out)) (by rfl) (hO.out.alloc _) ⟨wr.heap.size, 0, none⟩ 1 1 [.int .u32 cy] (by rfl) (by rfl) (news_next #[.int .u32 cy] 51 (by simp)) (by simp [Value.oneCell']) (by simp only [maxLen]; omega) (by omega) (by simp; have := hb.size; omega) ?_); intro v3 w3 hown1 hgrow hnil hat)
        have hb3 := below_app0 hb hgrow hb.size (fun k hk => (hO.out.lt _ hk).1)
        have ho := u_snoc (d := cy) hown1 rfl
        obtain ⟨X, cx, rfl, hcx, hcm, hX⟩ := own_slice1 ho.out
        have hlen : (List.replicate (k / 32) 0 ++ out ++ [cy]).length = k / 32 + l.length + 1 := by simp [hol]; omega
        have hX2 : Ws w3 w3.heap.size X (List.replicate (k / 32) 0 ++ out ++ [cy]) := by unfold Ws; rw [hlen]; exact hX
        have ht := trim_calls X cx w3.heap.size _ w3 (by rw [hlen]; exact hcx) (by rw [hlen]; omega) HI.out hX2
        rw [hlen, HF.out] at ht
        have HT := Lib.hid ht
        clear ht hX hX2 hlen ho hat hnil hgrow hown1
        go_wp2_with fail
        refine HT.out.mono ?_
        rintro e w2 ⟨rfl, hw2, hc3, rfl⟩
        have hd : NDone w (n * 2 ^ k) (.returned (.slice X (words (n * 2 ^ k)).length cx)) w2 := ⟨X, cx, rfl, hc3, hcm, hw2, hb3⟩
        have HD := Lib.hid hd
        clear hd
        go_wp2
        go_ret
        exact HD.out
end Go.Proofs.YtjbdadhggejoiaaGreatDoor

namespace Go.Proofs.YtjbdadhggejoiaaGreatDoor
open Go.RowKit
set_option maxRecDepth 100000

theorem Ws.cut {w : World} {B : Nat} {A : Option Addr} {l : List Nat} (h : Ws w B A l) {k cap : Nat} (hk : k ≤ l.length) (hc : l.length ≤ cap) :
    Ws w B (if cap = k then A else A.map (·.add k)) (l.drop k) := by
  have := Rds.cut h hk hc
  rw [Nat.mul_one] at this
  have e : (uCells l).drop k = uCells (l.drop k) := by unfold uCells; rw [List.map_drop]
  rw [e] at this
  unfold Ws
  rwa [List.length_drop]
theorem addr_succ (a : Addr) (j : Nat) (h : 0 < j) : a.add j = ⟨a.block, a.off + j, none⟩ := by
  unfold Addr.add
  rw [if_neg (by omega)]
theorem words_div : ∀ (s n : Nat), (words n).drop s = words (n / 4294967296 ^ s)
  | 0, n => by simp
  | s + 1, n => by
    by_cases h : n = 0
    · subst h; simp [words_zero]
    · rw [words_step h, List.drop_succ_cons, words_div s, Nat.pow_succ, Nat.mul_comm, Nat.div_div_eq_div_mul]
theorem words_at {n i : Nat} (h : i < (words n).length) : (words n)[i] = n / 4294967296 ^ i % 4294967296 := by
  have h2 := words_div i n
  rw [List.drop_eq_getElem_cons h] at h2
  have h3 : n / 4294967296 ^ i ≠ 0 := fun e => by rw [e, words_zero] at h2; cases h2
  rw [words_step h3] at h2
  exact (List.cons.inj h2).1
theorem shr_word {x y N r : Nat} (hx : x = N % 4294967296) (hy : y = N / 4294967296 % 4294967296) (hr : r < 32) : (x + 4294967296 * y) / 2 ^ r % 4294967296 = N / 2 ^ r % 4294967296 := by
  have e : x + 4294967296 * y = N % (4294967296 * 4294967296) := by rw [Nat.mod_mul, hx, hy]
  have hs : (4294967296 : Nat) * 4294967296 = 2 ^ r * (4294967296 * 2 ^ (32 - r)) := by
    have : (4294967296 : Nat) = 2 ^ r * 2 ^ (32 - r) := by rw [← Nat.pow_add, show r + (32 - r) = 32 by omega]
    calc (4294967296 : Nat) * 4294967296 = 4294967296 * (2 ^ r * 2 ^ (32 - r)) := by rw [← this]
      _ = _ := by rw [Nat.mul_left_comm]
  rw [e, hs, Nat.mod_mul_right_div_self, Nat.mod_mul_right_mod]
theorem shr_or {x y : Nat} (hx : x < 4294967296) (hy : y < 4294967296) : bits .or .u64 (x : Int) ((y : Int) * 4294967296) = ((x + 4294967296 * y : Nat) : Int) := by
  have e : (y : Int) * 4294967296 = ((4294967296 * y : Nat) : Int) := by omega
  rw [e, u64_or_nat _ _ (by omega) (by omega), Nat.or_comm]
  have := Nat.two_pow_add_eq_or_of_lt (i := 32) (b := x) hx y
  rw [show (2 : Nat) ^ 32 = 4294967296 by decide] at this
  rw [← this]
  omega

theorem shr_step {M r j x y d : Nat} {out : List Nat} (hx : x = M / 4294967296 ^ j % 4294967296) (hy : y = M / 4294967296 ^ j / 4294967296 % 4294967296) (hr : r < 32) (hol : out.length = j)
    (hV : IsW out ∧ val out = M / 2 ^ r % 4294967296 ^ j) (hd : d = (x + 4294967296 * y) / 2 ^ r % 4294967296) : IsW (out ++ [d]) ∧ val (out ++ [d]) = M / 2 ^ r % 4294967296 ^ (j + 1) := by
  have h1 := shr_word hx hy hr
  rw [Nat.div_div_eq_div_mul, Nat.mul_comm (4294967296 ^ j), ← Nat.div_div_eq_div_mul] at h1
  refine ⟨hV.1.snoc (by omega), ?_⟩
  rw [val_snoc, hol, hV.2, Nat.pow_succ, Nat.mod_mul, hd, h1]
theorem natDiv (a s : Nat) : ((a : Int) / 2 ^ s % 4294967296) = ((a / 2 ^ s % 4294967296 : Nat) : Int) := by
  rw [Int.natCast_emod, Int.natCast_ediv, Int.natCast_pow]
  rfl

set_option maxHeartbeats 4000000 in
theorem nshr_calls (A : Option Addr) (c n k : Nat) (w : World) (hc : (words n).length ≤ c) (hcm : c ≤ maxLen) (hl : (words n).length ≤ 1073741824) (hk : k < 18446744073709551616) (h : Ws w w.heap.size A (words n)) :
    Calls Tryz.prog 146 #[.slice A (words n).length c, .int .u64 k] w fun e w' => NDone w (n / 2 ^ k) e w' := by
  obtain ⟨i0, hi0, hz0, hz1, hz2⟩ := info_parts wordInfo
  have hp : (2 : Nat) ^ k = 4294967296 ^ (k / 32) * 2 ^ (k % 32) := by
    have h2 : (4294967296 : Nat) ^ (k / 32) = 2 ^ (32 * (k / 32)) := by rw [Nat.pow_mul]
    rw [h2, ← Nat.pow_add, Nat.div_add_mod]
  by_cases h0 : (words n).length ≤ k / 32
  · have hz : n / 2 ^ k = 0 := by
      have h1 := val_lt (words_isW n)
      rw [val_words] at h1
      have h2 : (4294967296 : Nat) ^ (words n).length ≤ 4294967296 ^ (k / 32) := Nat.pow_le_pow_right (by decide) h0
      have h3 : (4294967296 : Nat) ^ (k / 32) ≤ 2 ^ k := by rw [hp]; exact Nat.le_mul_of_pos_right _ (Nat.two_pow_pos _)
      exact Nat.div_eq_of_lt (by omega)
    have hx : NDone w (n / 2 ^ k) (.returned (.slice none 0 0)) w := by
      rw [hz]
      exact ⟨none, 0, rfl, Nat.le_refl _, by decide, Ws.nil, Below.refl _ _⟩
    have HX := Lib.hid hx
    clear hx hz hp h
    obtain ⟨L, hL⟩ : ∃ L, L = (words n).length := ⟨_, rfl⟩
    rw [← hL] at hl hc h0 ⊢
    clear hL
    go_enter Tryz.func146, Tryz.ntmps146
    go_wp2
    go_ret
    exact HX.out
  · have hcut := h.cut (k := k / 32) (cap := c) (by omega) hc
    rw [words_div] at hcut
    have hlen : (words n).length = k / 32 + (words (n / 4294967296 ^ (k / 32))).length := by
      rw [← words_div, List.length_drop]; omega
    have hN : n / 2 ^ k = n / 4294967296 ^ (k / 32) / 2 ^ (k % 32) := by rw [hp, Nat.div_div_eq_div_mul]
    rw [hN, hlen]
    rw [hlen] at hc h0 hl
    generalize n / 4294967296 ^ (k / 32) = M at hcut hc h0 hl ⊢
    obtain ⟨l, hln⟩ : ∃ l, l = words M := ⟨_, rfl⟩
    rw [← hln] at hcut hc h0 hl ⊢
    rw [if_neg (by omega)] at hcut
    have hpos : 0 < l.length := by omega
    obtain ⟨a0, rfl⟩ : ∃ a0, A = some a0 := by
      obtain ⟨ad, e, _⟩ := hcut.at_ 0 hpos
      rcases A with _ | a
      · cases e
      · exact ⟨a, rfl⟩
    have HH := Lib.hid hcut
    have Hl := Lib.hid hln
    clear hcut hln hN hp h hlen
    go_enter Tryz.func146, Tryz.ntmps146
    go_wp2_with (at_make; refine wpList_make_own _ (by rfl) _ _ 104 (by rfl) w.heap.size 51 i0 (.int .u32 0) 1 Tryz.underlying104 hi0 hz0 hz1 .i64 .i64 _ l.length (by rfl) (by rfl) (by omega) (by rw [hz2]; omega) (by unfold maxLen; omega) (Nat.le_refl _) ?_; intro w0 hown0 hgrow0)
    go_loopw [5, 27] (fun v5 i wr => ∃ (j : Nat) (out : List Nat), j ≤ l.length ∧ i = .int .i64 j ∧ Hid (wr.ownsRow w.heap.size 51 1 v5 j (uCells out)) ∧ out.length = j ∧ Hid (IsW out ∧ val out = M / 2 ^ (k % 32) % 4294967296 ^ j) ∧ Below w.heap.size w wr) (fun _ i _ => l.length - (intOf i).toNat)
    case atStart => exact ⟨0, [], by omega, rfl, hown0, rfl, ⟨fun x hx => (by cases hx), by simp [val, Nat.mod_one]⟩, (Below.refl _ _).grown hgrow0 (Nat.le_refl _) (fun k h => by cases h)⟩
    case round =>
      clear hown0 hgrow0
      obtain ⟨j, out, hj, rfl, hO, hol, hV, hb⟩ := hrel
      by_cases hlt : j < l.length
      · obtain ⟨ad, had, hab, h1⟩ := HH.out.at_ j hlt
        obtain rfl : a0.add (k / 32) = ad := by injection had
        have g1 : wr.cell? ((a0.add (k / 32)).add j) = some (.int .u32 (l[j] : Nat)) := (hb.cell (by rw [addr_block]; exact hab)).trans h1
        obtain ⟨x, hx⟩ : ∃ x, x = l[j] := ⟨_, rfl⟩
        rw [← hx] at g1
        have hxm : x = M / 4294967296 ^ j % 4294967296 := by
          have := words_at (n := M) (i := j) (by rw [← Hl.out]; exact hlt)
          rw [← this, hx]
          simp only [Hl.out]
        have hxw : x < 4294967296 := by omega
        have Hx := Lib.hid hxm
        clear hx h1 hxm had
        by_cases hj2 : j + 1 < l.length
        · obtain ⟨ad, had, _, h2⟩ := HH.out.at_ (j + 1) hj2
          obtain rfl : a0.add (k / 32) = ad := by injection had
          have g2 : wr.cell? ((a0.add (k / 32)).add (j + 1)) = some (.int .u32 (l[j + 1] : Nat)) := (hb.cell (by rw [addr_block]; exact hab)).trans h2
          rw [addr_succ _ _ (by omega)] at g2
          obtain ⟨y, hy⟩ : ∃ y, y = l[j + 1] := ⟨_, rfl⟩
          rw [← hy] at g2
          have hym : y = M / 4294967296 ^ j / 4294967296 % 4294967296 := by
            have := words_at (n := M) (i := j + 1) (by rw [← Hl.out]; exact hj2)
            rw [Nat.div_div_eq_div_mul, ← Nat.pow_succ, ← this, hy]
            simp only [Hl.out]
          have hyw : y < 4294967296 := by omega
          have Hy := Lib.hid hym
          clear hy h2 hym had
          have hor := shr_or hxw hyw
          obtain ⟨d, hd⟩ : ∃ d, d = (x + 4294967296 * y) / 2 ^ (k % 32) % 4294967296 := ⟨_, rfl⟩
          have HD := Lib.hid hd
          clear hd
          --CASE a
          go_wp2_with (at_builtin; (refine wpList_append_own_at _ (by rfl) (.tmp 48) (.tmp 53) 104 (by rfl) w.heap.size 51 i0 _ 1 4 Tryz.underlying104 hi0 hz0 hz1 hz2 rfl (by omega) _ j (uCells out) (by rfl) (hO.out.alloc _) ⟨wr.heap.size, 0, none⟩ 1 1 [.int .u32 ((↑x + 4294967296 * ↑y) / 2 ^ (k % 32) % 4294967296)] (by rfl) (by rfl) (news_next #[.int .u32 ((↑x + 4294967296 * ↑y) / 2 ^ (k % 32) % 4294967296)] 51 (by simp)) (by simp [Value.oneCell']) (by simp only [maxLen]; omega) (by omega) (by simp; have := hb.size; omega) ?_); intro v3 w3 hown1 hgrow hnil hat)
          go_roundw
          case rel =>
            have hs := shr_step Hx.out Hy.out (by omega) hol hV.out HD.out
            have hq : ((x : Int) + 4294967296 * (y : Int)) / 2 ^ (k % 32) % 4294967296 = (d : Int) := by
              rw [HD.out, ← natDiv]
              congr 2
            exact ⟨j + 1, out ++ [d], by omega, by go_num, u_snoc hown1 hq, by simp [hol], hs, below_app0 hb hgrow hb.size (fun k hk => (hO.out.lt _ hk).1)⟩
          case measure => simp [intOf]; omega
          --END a
        · have hy0 : 0 = M / 4294967296 ^ j / 4294967296 % 4294967296 := by
            have h1 := val_lt (words_isW M)
            rw [val_words, ← Hl.out] at h1
            have e : l.length = j + 1 := by omega
            rw [e] at h1
            rw [Nat.div_div_eq_div_mul, ← Nat.pow_succ, Nat.div_eq_of_lt h1]
          have HY := Lib.hid hy0
          obtain ⟨d, hd⟩ : ∃ d, d = (x + 4294967296 * 0) / 2 ^ (k % 32) % 4294967296 := ⟨_, rfl⟩
          have HD := Lib.hid hd
          clear hd hy0
          --CASE b
          go_wp2_with (at_builtin; (refine wpList_append_own_at _ (by rfl) (.tmp 48) (.tmp 53) 104 (by rfl) w.heap.size 51 i0 _ 1 4 Tryz.underlying104 hi0 hz0 hz1 hz2 rfl (by omega) _ j (uCells out) (by rfl) (hO.out.alloc _) ⟨wr.heap.size, 0, none⟩ 1 1 [.int .u32 (↑x / 2 ^ (k % 32) % 4294967296)] (by rfl) (by rfl) (news_next #[.int .u32 (↑x / 2 ^ (k % 32) % 4294967296)] 51 (by simp)) (by simp [Value.oneCell']) (by simp only [maxLen]; omega) (by omega) (by simp; have := hb.size; omega) ?_); intro v3 w3 hown1 hgrow hnil hat)
          go_roundw
          case rel =>
            have hs := shr_step Hx.out HY.out (by omega) hol hV.out HD.out
            have hq : (x : Int) / 2 ^ (k % 32) % 4294967296 = (d : Int) := by
              rw [HD.out, ← natDiv]
              rfl
            exact ⟨j + 1, out ++ [d], by omega, by go_num, u_snoc hown1 hq, by simp [hol], hs, below_app0 hb hgrow hb.size (fun k hk => (hO.out.lt _ hk).1)⟩
          case measure => simp [intOf]; omega
          --END b
      · obtain rfl : j = l.length := by omega
        have hfin : val out = M / 2 ^ (k % 32) := by
          have h1 := val_lt (words_isW M)
          rw [val_words, ← Hl.out] at h1
          rw [hV.out.2]
          exact Nat.mod_eq_of_lt (Nat.lt_of_le_of_lt (Nat.div_le_self _ _) h1)
        obtain ⟨X, cx, rfl, hcx, hcm2, hX⟩ := own_slice1 hO.out
        have hX2 : Ws wr wr.heap.size X out := by unfold Ws; rw [hol]; exact hX
        have HI := Lib.hid hV.out.1
        have ht := trim_calls X cx wr.heap.size _ wr (by omega) (by omega) HI.out hX2
        rw [hol, hfin] at ht
        have HT := Lib.hid ht
        have hb3 := hb
        clear ht hX hX2 hO hfin hol
        --CASE c
        go_wp2_with fail
        refine HT.out.mono ?_
        rintro e w2 ⟨rfl, hw2, hc3, rfl⟩
        have hd : NDone w (M / 2 ^ (k % 32)) (.returned (.slice X (words (M / 2 ^ (k % 32))).length cx)) w2 := ⟨X, cx, rfl, hc3, hcm2, hw2, hb3⟩
        have HD := Lib.hid hd
        clear hd
        go_wp2
        go_ret
        exact HD.out
        --END c
end Go.Proofs.YtjbdadhggejoiaaGreatDoor

namespace Go.Proofs.YtjbdadhggejoiaaGreatDoor
open Go.RowKit
set_option maxRecDepth 100000

theorem val_set : ∀ (l : List Nat) (i x : Nat) (h : i < l.length), val (l.set i x) + 4294967296 ^ i * l[i] = val l + 4294967296 ^ i * x
  | a :: l, 0, x, _ => by simp [val]; omega
  | a :: l, i + 1, x, h => by
    have hi : i < l.length := by simpa using h
    have ih := val_set l i x hi
    simp only [List.set_cons_succ, val, List.getElem_cons_succ, Nat.pow_succ]
    have e1 : 4294967296 ^ i * 4294967296 * l[i] = 4294967296 * (4294967296 ^ i * l[i]) := by rw [Nat.mul_comm (4294967296 ^ i) 4294967296, Nat.mul_assoc]
    have e2 : 4294967296 ^ i * 4294967296 * x = 4294967296 * (4294967296 ^ i * x) := by rw [Nat.mul_comm (4294967296 ^ i) 4294967296, Nat.mul_assoc]
    omega
theorem IsW.set {l : List Nat} {i x : Nat} (h : IsW l) (hx : x < 4294967296) : IsW (l.set i x) := fun y hy => by
  rcases List.mem_or_eq_of_mem_set hy with h1 | rfl
  · exact h y h1
  · exact hx
theorem uCells_set (l : List Nat) (i x : Nat) : (uCells l).set i (.int .u32 (x : Int)) = uCells (l.set i x) := by
  unfold uCells
  rw [List.map_set]
  rfl
/-- an own row of words: at the place j -/
theorem own_at {w : World} {base : Nat} {e : TypeId} {g n cap : Nat} {l : List Nat} (h : w.ownsRow base e 1 (.slice (some ⟨g, 0, none⟩) n cap) n (uCells l)) (j : Nat) (hj : j < l.length) :
    w.cell? ⟨g, j, none⟩ = some (.int .u32 (l[j] : Nat)) ∧ w.frozen? ⟨g, j, none⟩ = false := by
  have hl : l.length = n := by
    have := h.1
    rw [uCells_len] at this
    omega
  refine ⟨?_, h.frozenAt j⟩
  rw [h.cellAt j (by omega)]
  simp [uCells, U, hj]
theorem own_set {w : World} {base : Nat} {e : TypeId} {g n cap : Nat} {l : List Nat} (h : w.ownsRow base e 1 (.slice (some ⟨g, 0, none⟩) n cap) n (uCells l)) (j x : Nat) (q : Int) (hq : q = (x : Int)) :
    Hid ((w.setCell ⟨g, j, none⟩ (.int .u32 q)).ownsRow base e 1 (.slice (some ⟨g, 0, none⟩) n cap) n (uCells (l.set j x))) := by
  subst hq
  rw [← uCells_set]
  exact (h.stored j _).1
theorem mul_bound {x y : Nat} (hx : x < 4294967296) (hy : y < 4294967296) : 0 ≤ (x : Int) * (y : Int) ∧ (x : Int) * (y : Int) ≤ 18446744065119617025 := by
  have h : x * y ≤ 4294967295 * 4294967295 := Nat.mul_le_mul (by omega) (by omega)
  have e : (x : Int) * (y : Int) = ((x * y : Nat) : Int) := by simp
  omega
/-- the inner loop's round: a is the list as it was -/
theorem mul_step {m out : List Nat} {i k cy x y o V t : Nat} (hk : k < m.length) (hy : y = m[k]) (hl : i + k < out.length) (ho : o = out[i + k])
    (hV : val out + 4294967296 ^ (i + k) * cy = V + 4294967296 ^ i * (x * val (m.take k))) (ht : t = cy + (x * y + o)) :
    val (out.set (i + k) (t % 4294967296)) + 4294967296 ^ (i + (k + 1)) * (t / 4294967296) = V + 4294967296 ^ i * (x * val (m.take (k + 1))) := by
  have h1 := val_set out (i + k) (t % 4294967296) hl
  rw [← ho] at h1
  have h2 := Nat.mod_add_div t 4294967296
  rw [val_take hk, ← hy, Nat.mul_add, Nat.mul_add, ← Nat.add_assoc V, ← hV, ← Nat.add_assoc i, Nat.pow_succ, Nat.mul_assoc]
  have h3 : 4294967296 ^ i * (x * (4294967296 ^ k * y)) = 4294967296 ^ (i + k) * (x * y) := by
    rw [Nat.pow_add, Nat.mul_left_comm x, Nat.mul_assoc]
  rw [h3]
  have h4 : 4294967296 ^ (i + k) * (t % 4294967296) + 4294967296 ^ (i + k) * (4294967296 * (t / 4294967296)) = 4294967296 ^ (i + k) * cy + 4294967296 ^ (i + k) * (x * y) + 4294967296 ^ (i + k) * o := by
    rw [← Nat.mul_add, h2, ht, Nat.mul_add, Nat.mul_add, Nat.add_assoc]
  omega
theorem mul_row {n m out : List Nat} {i cy V x : Nat} (hi : i < n.length) (hx : x = n[i]) (hl : i + m.length < out.length) (h0 : out[i + m.length] = 0) (hV0 : V = val (n.take i) * val m)
    (hV : val out + 4294967296 ^ (i + m.length) * cy = V + 4294967296 ^ i * (x * val (m.take m.length))) : val (out.set (i + m.length) cy) = val (n.take (i + 1)) * val m := by
  have h1 := val_set out (i + m.length) cy hl
  rw [h0, Nat.mul_zero, Nat.add_zero] at h1
  rw [h1, hV, val_take hi, ← hx, Nat.add_mul, hV0, List.take_length, Nat.mul_assoc]

set_option maxHeartbeats 4000000 in
theorem nmul_calls (A A2 : Option Addr) (c c2 n m : Nat) (w : World) (hc : (words n).length ≤ c) (hc2 : (words m).length ≤ c2) (hl : (words n).length ≤ 1073741824) (hl2 : (words m).length ≤ 1073741824) (h : Ws w w.heap.size A (words n)) (h2 : Ws w w.heap.size A2 (words m)) :
    Calls Tryz.prog 120 #[.slice A (words n).length c, .slice A2 (words m).length c2] w fun e w' => NDone w (n * m) e w' := by
  obtain ⟨i0, hi0, hz0, hz1, hz2⟩ := info_parts wordInfo
  have HH := Lib.hid h; have H2 := Lib.hid h2
  clear h h2
  have hnz : ∀ n, (words n).length = 0 → n = 0 := fun n e => by
    have := val_words n
    rw [List.eq_nil_of_length_eq_zero e] at this
    exact this.symm
  by_cases h0 : (words n).length = 0 ∨ (words m).length = 0
  · have hx : NDone w (n * m) (.returned (.slice none 0 0)) w := by
      have : n * m = 0 := by
        rcases h0 with h | h
        · rw [hnz _ h, Nat.zero_mul]
        · rw [hnz _ h, Nat.mul_zero]
      rw [this]
      exact ⟨none, 0, rfl, Nat.le_refl _, by decide, Ws.nil, Below.refl _ _⟩
    have HX := Lib.hid hx
    clear hx hnz
    obtain ⟨L, hL⟩ : ∃ L, L = (words n).length := ⟨_, rfl⟩
    obtain ⟨L2, hL2⟩ : ∃ L, L = (words m).length := ⟨_, rfl⟩
    rw [← hL] at hl hc h0 ⊢
    rw [← hL2] at hl2 hc2 h0 ⊢
    clear hL hL2
    rcases Nat.eq_zero_or_pos L with rfl | hLp
    · go_enter Tryz.func120, Tryz.ntmps120
      go_wp2
      go_ret
      exact HX.out
    · obtain rfl : L2 = 0 := by omega
      go_enter Tryz.func120, Tryz.ntmps120
      go_wp2
      go_ret
      exact HX.out
  · obtain ⟨l, hln⟩ : ∃ l, l = words n := ⟨_, rfl⟩
    obtain ⟨r, hrm⟩ : ∃ r, r = words m := ⟨_, rfl⟩
    rw [← hln] at HH hl hc h0 ⊢
    rw [← hrm] at H2 hl2 hc2 h0 ⊢
    have Hl := Lib.hid hln; have Hr := Lib.hid hrm
    clear hln hrm
    have hlp : 0 < l.length := by omega
    have hrp : 0 < r.length := by omega
    have hq1 : ((l.length : Int) == 0) = false := by rw [beq_eq_false_iff_ne]; omega
    have hq2 : ((r.length : Int) == 0) = false := by rw [beq_eq_false_iff_ne]; omega
    clear hnz h0
    go_enter Tryz.func120, Tryz.ntmps120
    go_wp2_with (at_make; refine wpList_make_len _ (by rfl) _ _ 104 (by rfl) w.heap.size 51 i0 (.int .u32 0) Tryz.underlying104 hi0 hz0 hz1 rfl .i64 .i64 _ _ (l.length + r.length) (l.length + r.length) (by rfl) (by rfl) (by omega) (by omega) (by omega) (by rw [hz2]; omega) (by unfold maxLen; omega) (Nat.le_refl _) ?_; intro w0 hown0 hgrow0)
    go_loopw [27] (fun i wr => ∃ (j : Nat) (out : List Nat), j ≤ l.length ∧ i = .int .i64 j ∧ Hid (wr.ownsRow w.heap.size 51 1 (.slice (some ⟨w.heap.size, 0, none⟩) (l.length + r.length) (l.length + r.length)) (l.length + r.length) (uCells out)) ∧ out.length = l.length + r.length ∧ Hid (IsW out ∧ val out = val (l.take j) * val r ∧ ∀ k (h : k < out.length), j + r.length ≤ k → out[k] = 0) ∧ Below w.heap.size w wr) (fun i _ => l.length - (intOf i).toNat)
    case atStart =>
      refine ⟨0, List.replicate (l.length + r.length) 0, by omega, rfl, (show World.ownsRow _ _ _ _ _ _ _ by simpa [uCells, U] using hown0), by simp, ⟨fun y hy => by have := (List.mem_replicate.1 hy).2; omega, by simp [val_zeros, val], fun k h _ => by simp⟩, (Below.refl _ _).grown hgrow0 (Nat.le_refl _) (fun k h => by cases h)⟩
    case round =>
      clear hown0 hgrow0
      obtain ⟨j, out, hj, rfl, hO, hol, hV, hb⟩ := hrel
      by_cases hlt : j < l.length
      · obtain ⟨ad, rfl, hab, h1⟩ := HH.out.at_ j hlt
        have g1 : wr.cell? (ad.add j) = some (.int .u32 (l[j] : Nat)) := (hb.cell (by rw [addr_block]; exact hab)).trans h1
        obtain ⟨x, hx⟩ : ∃ x, x = l[j] := ⟨_, rfl⟩
        rw [← hx] at g1
        have hxw : x < 4294967296 := by rw [hx]; have := words_isW n; rw [← Hl.out] at this; exact this _ (List.getElem_mem hlt)
        have Hx := Lib.hid hx
        clear hx h1
        go_wp2
        go_loopw [8, 34] (fun v8 i2 ws => ∃ (k cy : Nat) (out2 : List Nat), k ≤ r.length ∧ i2 = .int .i64 k ∧ v8 = .int .u64 cy ∧ cy < 4294967296 ∧ Hid (ws.ownsRow w.heap.size 51 1 (.slice (some ⟨w.heap.size, 0, none⟩) (l.length + r.length) (l.length + r.length)) (l.length + r.length) (uCells out2)) ∧ out2.length = l.length + r.length ∧ Hid (IsW out2 ∧ val out2 + 4294967296 ^ (j + k) * cy = val out + 4294967296 ^ j * (x * val (r.take k)) ∧ ∀ q (h : q < out2.length), j + r.length ≤ q → out2[q] = 0) ∧ Below w.heap.size w ws) (fun _ i _ => r.length - (intOf i).toNat)
        case atStart => exact ⟨0, 0, out, by omega, rfl, rfl, by omega, hO, hol, ⟨hV.out.1, by simp [val], hV.out.2.2⟩, hb⟩
        case round =>
          obtain ⟨k, cy, out2, hk, rfl, rfl, hcy, hO2, hol2, hV2, hb2⟩ := hrel
          clear g1
          by_cases hlt2 : k < r.length
          · obtain ⟨ad2, rfl, hab2, h1⟩ := H2.out.at_ k hlt2
            have g1 : wr.cell? (ad2.add k) = some (.int .u32 (r[k] : Nat)) := (hb2.cell (by rw [addr_block]; exact hab2)).trans h1
            obtain ⟨y, hy⟩ : ∃ y, y = r[k] := ⟨_, rfl⟩
            rw [← hy] at g1
            have hyw : y < 4294967296 := by rw [hy]; have := words_isW m; rw [← Hr.out] at this; exact this _ (List.getElem_mem hlt2)
            have Hy := Lib.hid hy
            clear hy h1
            have hjk : j + k < out2.length := by omega
            obtain ⟨g2, g3⟩ := own_at hO2.out (j + k) hjk
            obtain ⟨o, ho⟩ : ∃ o, o = out2[j + k] := ⟨_, rfl⟩
            rw [← ho] at g2
            have how : o < 4294967296 := by rw [ho]; exact hV2.out.1 _ (List.getElem_mem hjk)
            have Ho := Lib.hid ho
            clear ho
            obtain ⟨hm0, hm1⟩ := mul_bound hxw hyw
            --CASE a
            go_wp2
            have hst := mul_step (cy := cy) (V := val out) hlt2 Hy.out hjk Ho.out hV2.out.2.1 rfl
            have e1 : ((cy : Int) + ((x : Int) * (y : Int) + (o : Int))) = ((cy + (x * y + o) : Nat) : Int) := by simp
            have hlt3 : cy + (x * y + o) < 4294967296 * 4294967296 := by
              have : ((x * y : Nat) : Int) ≤ 18446744065119617025 := by simpa using hm1
              omega
            rw [e1]
            refine ⟨⟨k + 1, (cy + (x * y + o)) / 4294967296, out2.set (j + k) ((cy + (x * y + o)) % 4294967296), by omega, by go_num, rfl, by omega, own_set hO2.out (j + k) _ _ (by omega), by simp [hol2], ⟨hV2.out.1.set (Nat.mod_lt _ (by decide)), hst, fun q h hq => ?_⟩, hb2.setCell (Nat.le_refl _) _⟩, by simp [intOf]; omega⟩
            rw [List.getElem_set_ne (by omega)]
            exact hV2.out.2.2 q (by simpa using h) hq
            --END a
          · obtain rfl : k = r.length := by omega
            have hjk : j + r.length < out2.length := by omega
            obtain ⟨g2, g3⟩ := own_at hO2.out (j + r.length) hjk
            --CASE b
            go_wp2
            have hrow := mul_row (cy := cy) hlt Hx.out hjk (hV2.out.2.2 _ hjk (Nat.le_refl _)) hV.out.2.1 hV2.out.2.1
            refine ⟨⟨j + 1, out2.set (j + r.length) cy, by omega, by go_num, own_set hO2.out (j + r.length) _ _ (by omega), by simp [hol2], ⟨hV2.out.1.set hcy, hrow, fun q h hq => ?_⟩, hb2.setCell (Nat.le_refl _) _⟩, by simp [intOf]; omega⟩
            rw [List.getElem_set_ne (by omega)]
            exact hV2.out.2.2 q (by simpa using h) (by omega)
            --END b
      · obtain rfl : j = l.length := by omega
        have hfin : val out = n * m := by
          rw [hV.out.2.1, List.take_length, Hl.out, Hr.out, val_words, val_words]
        obtain ⟨X, cx, hXe, hcx, hcm2, hX⟩ := own_slice1 hO.out
        obtain ⟨rfl, rfl⟩ : X = some ⟨w.heap.size, 0, none⟩ ∧ cx = l.length + r.length := by
          injection hXe with h1 h2 h3
          exact ⟨h1.symm, h3.symm⟩
        have hX2 : Ws wr wr.heap.size (some ⟨w.heap.size, 0, none⟩) out := by unfold Ws; rw [hol]; exact hX
        have HI := Lib.hid hV.out.1
        have ht := trim_calls _ (l.length + r.length) wr.heap.size _ wr (by omega) (by omega) HI.out hX2
        rw [hol, hfin] at ht
        have HT := Lib.hid ht
        clear ht hX hX2 hO hfin hol hXe
        --CASE c
        go_wp2_with fail
        refine HT.out.mono ?_
        rintro e w2 ⟨rfl, hw2, hc3, rfl⟩
        have hd : NDone w (n * m) (.returned (.slice (some ⟨w.heap.size, 0, none⟩) (words (n * m)).length (l.length + r.length))) w2 := ⟨_, _, rfl, hc3, hcm2, hw2, hb⟩
        have HD := Lib.hid hd
        clear hd
        go_wp2
        go_ret
        exact HD.out
        --END c
end Go.Proofs.YtjbdadhggejoiaaGreatDoor

namespace Go.Proofs.YtjbdadhggejoiaaGreatDoor
open Go.RowKit
set_option maxRecDepth 100000

theorem tz_ex : ∀ n : Nat, n ≠ 0 → ∃ k o, n = 2 ^ k * o ∧ o % 2 = 1 := by
  intro n
  induction n using Nat.strongRecOn with
  | _ n ih =>
    intro h
    by_cases h2 : n % 2 = 1
    · exact ⟨0, n, by simp, h2⟩
    · obtain ⟨k, o, e, ho⟩ := ih (n / 2) (by omega) (by omega)
      exact ⟨k + 1, o, by rw [Nat.pow_succ, Nat.mul_assoc, Nat.mul_left_comm, ← e]; omega, ho⟩
theorem tz_unique {k j o p : Nat} (h : 2 ^ k * o = 2 ^ j * p) (ho : o % 2 = 1) (hp : p % 2 = 1) : k = j ∧ o = p := by
  rcases Nat.lt_trichotomy k j with hlt | rfl | hlt
  · obtain ⟨d, rfl⟩ : ∃ d, j = k + (d + 1) := ⟨j - k - 1, by omega⟩
    rw [Nat.pow_add, Nat.mul_assoc] at h
    have := Nat.eq_of_mul_eq_mul_left (Nat.two_pow_pos k) h
    rw [Nat.pow_succ, Nat.mul_comm (2 ^ d), Nat.mul_assoc] at this
    omega
  · exact ⟨rfl, Nat.eq_of_mul_eq_mul_left (Nat.two_pow_pos k) h⟩
  · obtain ⟨d, rfl⟩ : ∃ d, k = j + (d + 1) := ⟨k - j - 1, by omega⟩
    rw [Nat.pow_add, Nat.mul_assoc] at h
    have := Nat.eq_of_mul_eq_mul_left (Nat.two_pow_pos j) h
    rw [Nat.pow_succ, Nat.mul_comm (2 ^ d), Nat.mul_assoc] at this
    omega

theorem and_neg_odd {o k : Nat} (ho : o % 2 = 1) (h : o < 2 ^ k) : o &&& (2 ^ k - o) = 1 := by
  obtain ⟨a, rfl⟩ : ∃ a, o = a + 1 := ⟨o - 1, by omega⟩
  apply Nat.eq_of_testBit_eq
  intro i
  rw [Nat.testBit_and, Nat.testBit_two_pow_sub_succ (by omega)]
  cases i with
  | zero =>
    have hk : 0 < k := by
      refine Nat.pos_of_ne_zero fun e => ?_
      subst e
      simp at h
    have h0 : a % 2 = 0 := by omega
    simp [Nat.testBit_zero, ho, h0, hk]
  | succ i =>
    have e : (a + 1) / 2 = a / 2 := by omega
    rw [Nat.testBit_succ, Nat.testBit_succ, e]
    have h1 : Nat.testBit 1 (i + 1) = false := by rw [Nat.testBit_succ]; simp
    rw [h1]
    cases (a / 2).testBit i <;> simp
theorem and_neg {x t o : Nat} (hx : x < 4294967296) (ht : x = 2 ^ t * o) (ho : o % 2 = 1) : x &&& (4294967296 - x) = 2 ^ t ∧ t < 32 := by
  have ht32 : t < 32 := by
    refine Nat.lt_of_not_le fun h => ?_
    have h1 : 2 ^ 32 ≤ 2 ^ t := Nat.pow_le_pow_right (by decide) h
    have h2 : 2 ^ t * 1 ≤ 2 ^ t * o := Nat.mul_le_mul_left _ (by omega)
    have h3 : (2 : Nat) ^ 32 = 4294967296 := by decide
    omega
  refine ⟨?_, ht32⟩
  have e : (4294967296 : Nat) = 2 ^ t * 2 ^ (32 - t) := by rw [← Nat.pow_add, show t + (32 - t) = 32 by omega]
  have e2 : 4294967296 - x = 2 ^ t * (2 ^ (32 - t) - o) := by rw [ht, Nat.mul_sub, ← e]
  have ho2 : o < 2 ^ (32 - t) := by
    rw [ht, e] at hx
    exact Nat.lt_of_mul_lt_mul_left hx
  rw [e2, ht, Nat.mul_comm, Nat.mul_comm (2 ^ t) (2 ^ (32 - t) - o), ← Nat.shiftLeft_eq, ← Nat.shiftLeft_eq, ← Nat.shiftLeft_and_distrib, and_neg_odd ho ho2, Nat.shiftLeft_eq, Nat.one_mul]

/-- the library's table, where the program holds it -/
def deB : List Nat := [0, 1, 28, 2, 29, 14, 24, 3, 30, 22, 20, 15, 25, 17, 4, 8, 31, 27, 13, 23, 21, 19, 16, 7, 26, 12, 18, 6, 11, 5, 10, 9]
def Tab (w : World) : Prop := ∀ i v, deB[i]? = some v → w.cell? ⟨1, i, none⟩ = some (.int .u8 (v : Nat))
theorem deB_at : ∀ t : Nat, t < 32 → deB[2 ^ t * 125613361 % 4294967296 / 134217728]? = some t := by decide
theorem Tab.pos {w : World} (h : Tab w) : 2 ≤ w.heap.size := by
  have := h 0 0 rfl
  have := World.block_lt_of_cell? _ _ this
  simp at this
  omega
theorem Tab.below {w w' : World} {B : Nat} (h : Tab w) (hb : Below B w w') (hB : 2 ≤ B) : Tab w' := fun i v hv => (hb.cell (by show 1 < B; omega)).trans (h i v hv)
set_option maxHeartbeats 4000000 in
theorem tz32_calls (x t o : Nat) (hx : x < 4294967296) (ht : x = 2 ^ t * o) (ho : o % 2 = 1) (w : World) (hT : Tab w) :
    Calls Tryz.prog 161 #[.int .u32 x] w fun e w' => e = .returned (.int .i64 t) ∧ w' = w := by
  obtain ⟨h1, h32⟩ := and_neg hx ht ho
  have hx0 : x ≠ 0 := fun e => by rw [e] at h1; simp at h1; exact absurd h1.symm (Nat.ne_of_gt (Nat.two_pow_pos t))
  have hn : (-(x : Int) % 4294967296) = ((4294967296 - x : Nat) : Int) := by omega
  have ha : bits .and .u32 (x : Int) (-(x : Int) % 4294967296) = ((2 ^ t : Nat) : Int) := by
    rw [hn, u32_and_nat _ _ hx (by omega), h1]
  obtain ⟨p, hp⟩ : ∃ p, p = 2 ^ t := ⟨_, rfl⟩
  rw [← hp] at ha
  have hc := hT _ _ (deB_at t h32)
  rw [← hp] at hc
  have hq : ((x : Int) == 0) = false := by rw [beq_eq_false_iff_ne]; omega
  clear hT hn h1 ht hp
  go_enter Tryz.func161, Tryz.ntmps161
  go_wp2
  go_ret
  exact ⟨rfl, rfl⟩
theorem zeros_at {n k j o t p x : Nat} (h : n = 2 ^ k * o) (ho : o % 2 = 1) (hj : j < (words n).length) (hz : ∀ i (h : i < (words n).length), i < j → (words n)[i] = 0) (hx : x = (words n)[j]) (ht : x = 2 ^ t * p) (hp : p % 2 = 1) : k = 32 * j + t := by
  have h1 := val_at hj
  have hzz : val ((words n).take j) = 0 := by
    have : (words n).take j = List.replicate j 0 := by
      apply List.ext_getElem
      · simp; omega
      · intro i h1 h2
        rw [List.getElem_take, List.getElem_replicate]
        exact hz i _ (by simp at h2; omega)
    rw [this, val_zeros]
  rw [val_words, hzz, Nat.zero_add, ← hx, ht, show (4294967296 : Nat) ^ j = 2 ^ (32 * j) by rw [Nat.pow_mul]] at h1
  have ht32 : t < 32 := (and_neg (x := x) (by rw [hx]; exact words_isW n _ (List.getElem_mem _)) ht hp).2
  have e : (4294967296 : Nat) * val ((words n).drop (j + 1)) = 2 ^ t * (2 * (2 ^ (31 - t) * val ((words n).drop (j + 1)))) := by
    have : (4294967296 : Nat) = 2 ^ t * (2 * 2 ^ (31 - t)) := by
      rw [← Nat.pow_succ', ← Nat.pow_add, show t + (31 - t).succ = 32 by omega]
    rw [← Nat.mul_assoc 2, ← Nat.mul_assoc (2 ^ t), ← this]
  rw [e, ← Nat.mul_add, ← Nat.mul_assoc, ← Nat.pow_add] at h1
  rw [h] at h1
  exact (tz_unique h1 ho (by omega)).1

set_option maxHeartbeats 4000000 in
theorem nzeros_calls (A : Option Addr) (c n k o : Nat) (w : World) (hc : (words n).length ≤ c) (hl : (words n).length ≤ 1073741824) (h : Ws w w.heap.size A (words n)) (hn : n = 2 ^ k * o) (ho : o % 2 = 1) (hT : Tab w) :
    Calls Tryz.prog 145 #[.slice A (words n).length c] w fun e w' => e = .returned (.int .u64 k) ∧ w' = w := by
  have HH := Lib.hid h
  have HT := Lib.hid hT
  have hn0 : n ≠ 0 := fun e => by
    rw [e] at hn
    have := Nat.two_pow_pos k
    rcases Nat.mul_eq_zero.1 hn.symm with h | h <;> omega
  have HN := Lib.hid hn
  have HO := Lib.hid ho
  clear h hT hn
  go_enter Tryz.func145, Tryz.ntmps145
  go_wp2
  go_loopw [7] (fun i wr => ∃ (j : Nat), j ≤ (words n).length ∧ i = .int .i64 j ∧ Hid (∀ i (h : i < (words n).length), i < j → (words n)[i] = 0) ∧ w = wr) (fun i _ => (words n).length - (intOf i).toNat)
  case atStart => exact ⟨0, by omega, rfl, fun i _ h => absurd h (by omega), rfl⟩
  case round =>
    obtain ⟨j, hj, rfl, hZ, rfl⟩ := hrel
    by_cases hlt : j < (words n).length
    · obtain ⟨ad, rfl, hab, g1⟩ := HH.out.at_ j hlt
      obtain ⟨x, hx⟩ : ∃ x, x = (words n)[j] := ⟨_, rfl⟩
      rw [← hx] at g1
      have hxw : x < 4294967296 := by rw [hx]; exact words_isW n _ (List.getElem_mem _)
      have Hx := Lib.hid hx
      clear hx
      by_cases hx0 : x = 0
      · subst hx0
        have hz2 : Hid (∀ i (h : i < (words n).length), i < j + 1 → (words n)[i] = 0) := fun i h1 h2 => by
          by_cases e : i = j
          · subst e; exact Hx.out.symm
          · exact hZ.out i h1 (by omega)
        go_wp2
        exact ⟨⟨j + 1, by omega, by go_num, hz2, by first | rfl | trivial⟩, by simp [intOf]; omega⟩
      · have hx1 : ((x : Int) == 0) = false := by rw [beq_eq_false_iff_ne]; omega
        obtain ⟨t, p, hxt, hp⟩ := tz_ex x hx0
        have hk := zeros_at HN.out HO.out hlt hZ.out Hx.out hxt hp
        have hcall := tz32_calls x t p hxw hxt hp w HT.out
        have ht32 : t < 32 := (and_neg hxw hxt hp).2
        have HC := Lib.hid hcall
        have HK := Lib.hid hk
        clear hcall hk hxt
        go_wp2_with fail
        refine HC.out.mono ?_
        rintro e w2 ⟨rfl, rfl⟩
        go_wp2
        go_ret
        exact ⟨by rw [HK.out]; go_num, rfl⟩
    · have : False := by
        have e : words n = List.replicate (words n).length 0 := by
          apply List.ext_getElem
          · simp
          · intro i h1 h2
            rw [List.getElem_replicate]
            exact hZ.out i h1 (by omega)
        have := val_words n
        rw [e, val_zeros] at this
        exact hn0 this.symm
      exact this.elim
end Go.Proofs.YtjbdadhggejoiaaGreatDoor

namespace Go.Proofs.YtjbdadhggejoiaaGreatDoor
open Go.RowKit
set_option maxRecDepth 100000

theorem short_or {x y : Nat} (hx : x < 4294967296) (hy : y < 4294967296) : bits .or .u64 ((y : Int) * 4294967296) (x : Int) = ((x + 4294967296 * y : Nat) : Int) := by
  have e : (y : Int) * 4294967296 = ((4294967296 * y : Nat) : Int) := by omega
  rw [e, u64_or_nat _ _ (by omega) (by omega)]
  have := Nat.two_pow_add_eq_or_of_lt (i := 32) (b := x) hx y
  rw [show (2 : Nat) ^ 32 = 4294967296 by decide] at this
  rw [← this]
  omega
theorem short_step {l out : List Nat} {j x rs d t : Nat} (hj : j < l.length) (hx : x = l[j]) (hol : out.length = l.length) (ht : t = x + 4294967296 * rs) (hV : val (out.drop (j + 1)) * d + rs = val (l.drop (j + 1))) :
    val ((out.set j (t / d)).drop j) * d + t % d = val (l.drop j) := by
  have h1 : (out.set j (t / d)).drop j = t / d :: out.drop (j + 1) := by
    rw [List.drop_eq_getElem_cons (by simp; omega), List.getElem_set_self, List.drop_set_of_lt (by omega)]
  have h2 : l.drop j = l[j] :: l.drop (j + 1) := List.drop_eq_getElem_cons hj
  rw [h1, h2, val, val, ← hV, ← hx, Nat.add_mul, Nat.mul_add, Nat.mul_assoc]
  have := Nat.div_add_mod t d
  rw [Nat.mul_comm] at this
  omega

set_option maxHeartbeats 4000000 in
theorem nshort_calls (A : Option Addr) (c n d : Nat) (w : World) (hc : (words n).length ≤ c) (hl : (words n).length ≤ 1073741824) (hd : d < 4294967296) (hd0 : 0 < d) (h : Ws w w.heap.size A (words n)) :
    Calls Tryz.prog 155 #[.slice A (words n).length c, .int .u32 d] w fun e w' => ∃ X cx, e = .returned (.tuple #[.slice X (words (n / d)).length cx, .int .u32 (n % d : Nat)]) ∧ (words (n / d)).length ≤ cx ∧ cx ≤ maxLen ∧ Ws w' w'.heap.size X (words (n / d)) ∧ Below w.heap.size w w' := by
  obtain ⟨i0, hi0, hz0, hz1, hz2⟩ := info_parts wordInfo
  have HH := Lib.hid h
  clear h
  obtain ⟨l, hln⟩ : ∃ l, l = words n := ⟨_, rfl⟩
  rw [← hln] at HH hl hc ⊢
  have Hl := Lib.hid hln
  clear hln
  go_enter Tryz.func155, Tryz.ntmps155
  go_wp2_with (at_make; refine wpList_make_len _ (by rfl) _ _ 104 (by rfl) w.heap.size 51 i0 (.int .u32 0) Tryz.underlying104 hi0 hz0 hz1 rfl .i64 .i64 _ _ l.length l.length (by rfl) (by rfl) (by omega) (by omega) (by omega) (by rw [hz2]; omega) (by unfold maxLen; omega) (Nat.le_refl _) ?_; intro w0 hown0 hgrow0)
  go_loopw [7, 8] (fun v7 i wr => ∃ (j rs : Nat) (out : List Nat), j ≤ l.length ∧ i = .int .i64 ((j : Int) - 1) ∧ v7 = .int .u64 rs ∧ rs < d ∧ Hid (wr.ownsRow w.heap.size 51 1 (.slice (some ⟨w.heap.size, 0, none⟩) l.length l.length) l.length (uCells out)) ∧ out.length = l.length ∧ Hid (IsW out ∧ val (out.drop j) * d + rs = val (l.drop j)) ∧ Below w.heap.size w wr) (fun _ i _ => (intOf i + 1).toNat)
  case atStart =>
    refine ⟨l.length, 0, List.replicate l.length 0, by omega, rfl, rfl, hd0, (show World.ownsRow _ _ _ _ _ _ _ by simpa [uCells, U] using hown0), by simp, ⟨fun y hy => by have := (List.mem_replicate.1 hy).2; omega, by simp [val]⟩, (Below.refl _ _).grown hgrow0 (Nat.le_refl _) (fun k h => by cases h)⟩
  case round =>
    clear hown0 hgrow0
    obtain ⟨j, rs, out, hj, rfl, rfl, hrs, hO, hol, hV, hb⟩ := hrel
    by_cases hlt : 0 < j
    · obtain ⟨j, rfl⟩ : ∃ i, j = i + 1 := ⟨j - 1, by omega⟩
      have ej : (((j + 1 : Nat) : Int) - 1) = (j : Int) := by omega
      rw [ej]
      obtain ⟨ad, rfl, hab, h1⟩ := HH.out.at_ j (by omega)
      have g1 : wr.cell? (ad.add j) = some (.int .u32 (l[j] : Nat)) := (hb.cell (by rw [addr_block]; exact hab)).trans h1
      obtain ⟨x, hx⟩ : ∃ x, x = l[j] := ⟨_, rfl⟩
      rw [← hx] at g1
      have hxw : x < 4294967296 := by rw [hx]; have := words_isW n; rw [← Hl.out] at this; exact this _ (List.getElem_mem _)
      have Hx := Lib.hid hx
      clear hx h1
      obtain ⟨g2, g3⟩ := own_at hO.out j (by omega)
      have hor := short_or hxw (show rs < 4294967296 by omega)
      have hd1 : ((d : Int) == 0) = false := by rw [beq_eq_false_iff_ne]; omega
      --CASE a
      go_wp2
      have hst := short_step (d := d) (x := x) (rs := rs) (by omega) Hx.out hol rfl hV.out.2
      have hlt2 : (x + 4294967296 * rs) / d < 4294967296 := by
        rw [Nat.div_lt_iff_lt_mul hd0]
        have : 4294967296 * (rs + 1) ≤ 4294967296 * d := Nat.mul_le_mul_left _ (by omega)
        omega
      have e1 : ((x : Int) + 4294967296 * (rs : Int)) = ((x + 4294967296 * rs : Nat) : Int) := by omega
      rw [e1]
      refine ⟨⟨j, (x + 4294967296 * rs) % d, out.set j ((x + 4294967296 * rs) / d), by omega, rfl, rfl, Nat.mod_lt _ hd0, own_set hO.out j _ _ (by rw [← Int.natCast_ediv]; generalize (x + 4294967296 * rs) / d = y at hlt2 ⊢; omega), by simp [hol], ⟨hV.out.1.set hlt2, hst⟩, hb.setCell (Nat.le_refl _) _⟩, by simp [intOf]⟩
      --END a
    · obtain rfl : j = 0 := by omega
      have hV2 := hV.out.2
      simp only [List.drop_zero] at hV2
      rw [Hl.out, val_words] at hV2
      have hq : val out = n / d := by
        rw [← hV2, Nat.add_comm, Nat.add_mul_div_right _ _ hd0, Nat.div_eq_of_lt hrs, Nat.zero_add]
      have hr : rs = n % d := by
        rw [← hV2, Nat.add_comm, Nat.add_mul_mod_self_right, Nat.mod_eq_of_lt hrs]
      obtain ⟨X, cx, hXe, hcx, hcm2, hX⟩ := own_slice1 hO.out
      obtain ⟨rfl, rfl⟩ : X = some ⟨w.heap.size, 0, none⟩ ∧ cx = l.length := by
        injection hXe with h1 h2 h3
        exact ⟨h1.symm, h3.symm⟩
      have hX2 : Ws wr wr.heap.size (some ⟨w.heap.size, 0, none⟩) out := by unfold Ws; rw [hol]; exact hX
      have HI := Lib.hid hV.out.1
      have ht := trim_calls _ l.length wr.heap.size _ wr (by omega) (by omega) HI.out hX2
      rw [hol, hq] at ht
      have HT := Lib.hid ht
      have HR := Lib.hid hr
      clear ht hX hX2 hO hq hol hXe hV2 hV hr
      --CASE c
      go_wp2_with fail
      refine HT.out.mono ?_
      rintro e w2 ⟨rfl, hw2, hc3, rfl⟩
      have HD := Lib.hid hw2
      clear hw2
      go_wp2
      refine bodyPost_ret (v := .tuple #[.slice (some ⟨w.heap.size, 0, none⟩) (words (n / d)).length l.length, .int .u32 (n % d : Nat)]) ?_ rfl ⟨_, _, rfl, hc3, hcm2, HD.out, hb⟩
      rw [← HR.out]
      simp_all [results, Tryz.results155, go_sem]
      --END c
end Go.Proofs.YtjbdadhggejoiaaGreatDoor
