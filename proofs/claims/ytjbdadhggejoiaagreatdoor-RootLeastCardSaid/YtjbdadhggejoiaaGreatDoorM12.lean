/- 'sqrt' is the root, cut: Newton's steps from above.
   'big.Int': a pointer to a sign and words: what memory holds; 'put' and the methods that lean on it alone. -/
import Derived.Test.YtjbdadhggejoiaaGreatDoorM11
import Derived.Deep.LoopGhost
import Derived.Test.YtjbdadhggejoiaaGreatDoorM06

namespace Go.Proofs.YtjbdadhggejoiaaGreatDoor
open Go.RowKit
set_option maxRecDepth 100000

theorem words_len_shl {n s : Nat} (hs : s ≤ 32) : (words (n * 2 ^ s)).length ≤ (words n).length + 1 := by
  obtain ⟨L, hL⟩ : ∃ L, L = (words n).length := ⟨_, rfl⟩
  have h1 := val_lt (words_isW n)
  rw [val_words, ← hL] at h1
  have h2 : n * 2 ^ s < 4294967296 ^ (L + 1) := by
    rw [Nat.pow_succ]
    have h3 : (2 : Nat) ^ s ≤ 2 ^ 32 := Nat.pow_le_pow_right (by decide) hs
    have h4 : n * 2 ^ s < 4294967296 ^ L * 2 ^ s := Nat.mul_lt_mul_of_pos_right h1 (Nat.two_pow_pos s)
    have h5 : 4294967296 ^ L * 2 ^ s ≤ 4294967296 ^ L * 4294967296 := Nat.mul_le_mul_left _ h3
    omega
  rw [← hL]
  refine Nat.le_of_not_lt fun hc => ?_
  have h6 := val_ge (canon_of (n * 2 ^ s)) (fun e => by rw [e] at hc; simp at hc)
  rw [val_words] at h6
  have h7 : (4294967296 : Nat) ^ (L + 1) ≤ 4294967296 ^ ((words (n * 2 ^ s)).length - 1) := Nat.pow_le_pow_right (by decide) (by omega)
  omega
theorem words_len_four {n m : Nat} (h : m ≤ 4 * n) : (words m).length ≤ (words n).length + 1 := by
  refine Nat.le_trans (words_len_le (m := n * 2 ^ 2) (by omega)) (words_len_shl (by omega))
/-- Newton's step stays above the root -/
theorem newton {n x : Nat} (hx : 0 < x) (h : n < (x + 1) * (x + 1)) : n < ((x + n / x) / 2 + 1) * ((x + n / x) / 2 + 1) := by
  obtain ⟨q, hq⟩ : ∃ q, q = n / x := ⟨_, rfl⟩
  have h1 : n < (q + 1) * x := by
    have := Nat.lt_div_mul_add hx (a := n)
    rw [← hq] at this
    rw [Nat.add_mul, Nat.one_mul]
    exact this
  rw [← hq]
  obtain ⟨y, hy⟩ : ∃ y, y = (x + q) / 2 := ⟨_, rfl⟩
  rw [← hy]
  have h2 : x + q + 1 ≤ 2 * (y + 1) := by omega
  have h3 : (x + (q + 1)) * (x + (q + 1)) ≤ 2 * (y + 1) * (2 * (y + 1)) := Nat.mul_le_mul h2 h2
  have h4 : 4 * ((q + 1) * x) ≤ (x + (q + 1)) * (x + (q + 1)) := by
    generalize q + 1 = z
    rcases Nat.le_total x z with hle | hle
    · obtain ⟨d, rfl⟩ := Nat.exists_eq_add_of_le hle
      have : (x + (x + d)) * (x + (x + d)) = 4 * ((x + d) * x) + d * d := by grind
      omega
    · obtain ⟨d, rfl⟩ := Nat.exists_eq_add_of_le hle
      have : (z + d + z) * (z + d + z) = 4 * (z * (z + d)) + d * d := by grind
      omega
  have h5 : 2 * (y + 1) * (2 * (y + 1)) = 4 * ((y + 1) * (y + 1)) := by grind
  omega
theorem newton_end {n x : Nat} (hx : 0 < x) (h : x ≤ (x + n / x) / 2) : x * x ≤ n := by
  have h1 : x ≤ n / x := by omega
  exact (Nat.le_div_iff_mul_le hx).1 h1
theorem root_unique {n r x : Nat} (h1 : r * r ≤ n) (h2 : n < (r + 1) * (r + 1)) (h3 : x * x ≤ n) (h4 : n < (x + 1) * (x + 1)) : x = r := by
  rcases Nat.lt_trichotomy x r with h | h | h
  · have := Nat.mul_le_mul (show x + 1 ≤ r from h) (show x + 1 ≤ r from h)
    omega
  · exact h
  · have := Nat.mul_le_mul (show r + 1 ≤ x from h) (show r + 1 ≤ x from h)
    omega
theorem root_start {n : Nat} (hn : 0 < n) : n < (2 ^ ((Go.bitLen n + 1) / 2) + 1) * (2 ^ ((Go.bitLen n + 1) / 2) + 1) ∧ 2 ^ ((Go.bitLen n + 1) / 2) ≤ 2 * n := by
  obtain ⟨h1, h2⟩ := bitLen_spec n
  have h3 := h2 (by omega)
  have hb := bl_pos (n := n) (by omega)
  obtain ⟨m, hm⟩ : ∃ m, m = (Go.bitLen n + 1) / 2 := ⟨_, rfl⟩
  rw [← hm]
  have h4 : 2 ^ Go.bitLen n ≤ 2 ^ m * 2 ^ m := by
    rw [← Nat.pow_add]
    exact Nat.pow_le_pow_right (by decide) (by omega)
  have h5 : 2 ^ m ≤ 2 * 2 ^ (Go.bitLen n - 1) := by
    rw [← Nat.pow_succ']
    exact Nat.pow_le_pow_right (by decide) (by omega)
  refine ⟨?_, by omega⟩
  have : (2 ^ m + 1) * (2 ^ m + 1) = 2 ^ m * 2 ^ m + 2 * 2 ^ m + 1 := by grind
  omega

set_option maxHeartbeats 4000000 in
theorem nsqrt_calls (A : Option Addr) (c n r : Nat) (w : World) (hc : (words n).length ≤ c) (hcm : c ≤ maxLen) (hl : (words n).length ≤ 16777216) (hr1 : r * r ≤ n) (hr2 : n < (r + 1) * (r + 1)) (h : Ws w w.heap.size A (words n)) :
    Calls Tryz.prog 135 #[.slice A (words n).length c] w fun e w' => NDone w r e w' := by
  have HH := Lib.hid h
  clear h
  by_cases h0 : n = 0
  · subst h0
    obtain rfl : r = 0 := by
      refine Nat.eq_zero_of_not_pos fun hp => ?_
      have := Nat.mul_le_mul hp hp
      omega
    have hx : NDone w 0 (.returned (.slice none 0 0)) w := ⟨none, 0, rfl, Nat.le_refl _, by decide, Ws.nil, Below.refl _ _⟩
    have HX := Lib.hid hx
    clear hx
    have e0 : (words 0).length = 0 := rfl
    rw [e0]
    go_enter Tryz.func135, Tryz.ntmps135
    go_wp2
    go_ret
    exact HX.out
  · have hn : 0 < n := by omega
    obtain ⟨hst, hle⟩ := root_start hn
    have hbc := fun w' (hb : Below w.heap.size w w') => nbits_calls A c n w' hc (by omega) ((HH.out.below hb (Nat.le_refl _)).more hb.size)
    have hbl : Go.bitLen n ≤ 32 * (words n).length := by
      have h1 := val_lt (words_isW n)
      rw [val_words] at h1
      have h2 := (bitLen_spec n).2 h0
      have h3 : 2 ^ (Go.bitLen n - 1) < 2 ^ (32 * (words n).length) := by rw [Nat.pow_mul]; exact Nat.lt_of_le_of_lt h2 h1
      have h4 := (Nat.pow_lt_pow_iff_right (by decide)).1 h3
      omega
    obtain ⟨m, hm⟩ : ∃ m, m = (Go.bitLen n + 1) / 2 := ⟨_, rfl⟩
    obtain ⟨b, hb⟩ : ∃ b, b = Go.bitLen n := ⟨_, rfl⟩
    obtain ⟨L, hL⟩ : ∃ L, L = (words n).length := ⟨_, rfl⟩
    have hLp : 0 < L := by
      rw [hL]
      refine Nat.pos_of_ne_zero fun e => h0 ?_
      have := val_words n
      rw [List.eq_nil_of_length_eq_zero e] at this
      exact this.symm
    rw [← hm] at hst hle
    rw [← hb] at hm hbc hbl
    rw [← hL] at hbc hbl hc hl ⊢
    have hmI : (((b : Int) + 1) / 2) = (m : Int) := by omega
    have hmb : m ≤ 16777216 * 32 := by omega
    have HB := Lib.hid hbc
    have HL := Lib.hid hL
    have HS := Lib.hid hst
    have HLe := Lib.hid hle
    clear hm hb hL hbc hst hle
    go_enter Tryz.func135, Tryz.ntmps135
    go_wp2_with fail
    refine (nsmall_calls 1 (by omega) w).mono ?_
    rintro e w1 ⟨X1, c1, rfl, hc1, hcm1, hW1, hb1⟩
    have HW1 := Lib.hid hW1
    clear hW1
    go_wp2_with fail
    refine (HB.out w1 hb1).mono ?_
    rintro e w2 ⟨rfl, hw2⟩
    obtain rfl := hw2.symm
    have hsh := nshl_calls X1 c1 1 m w1 hc1 (by decide) (by omega) HW1.out
    rw [Nat.one_mul] at hsh
    have HSH := Lib.hid hsh
    clear hsh
    go_wp2_with fail
    refine HSH.out.mono ?_
    rintro e w2 ⟨X2, c2, rfl, hc2, hcm2, hW2, hb2⟩
    have HW2 := Lib.hid hW2
    clear hW2
    go_wp2_with fail
    have hb02 : Below w.heap.size w w2 := hb1.trans (hb2.mono hb1.size)
    go_loopg [3] (2 ^ m) (fun g v3 wx => ∃ (X : Option Addr) (cx : Nat), v3 = .slice X (words g).length cx ∧ (words g).length ≤ cx ∧ cx ≤ maxLen ∧ Hid (Ws wx wx.heap.size X (words g)) ∧ Hid (n < (g + 1) * (g + 1)) ∧ g ≤ 2 * n ∧ 0 < g ∧ Below w.heap.size w wx)
    case atStart => exact ⟨X2, c2, rfl, hc2, hcm2, HW2, HS, HLe.out, Nat.two_pow_pos m, hb02⟩
    case round =>
      obtain ⟨X, cx, rfl, hcx, hcmx, hX, hgt, hg2, hgp, hb⟩ := hrel
      have hlx : (words gk).length ≤ L + 1 := by rw [HL.out]; exact words_len_four (by omega)
      have hdc := ndiv_calls A X c cx n gk wr (by rw [← HL.out]; exact hc) hcm hcx (by rw [← HL.out]; omega) (by omega) (by omega) ((HH.out.below hb (Nat.le_refl _)).more hb.size) hX.out
      rw [← HL.out] at hdc
      have HD := Lib.hid hdc
      obtain ⟨y, hy⟩ : ∃ y, y = (gk + n / gk) / 2 := ⟨_, rfl⟩
      have hql : n / gk ≤ n := Nat.div_le_self _ _
      obtain ⟨q, hq⟩ : ∃ q, q = n / gk := ⟨_, rfl⟩
      have hnew := newton hgp hgt.out
      have hnend := newton_end (n := n) hgp
      rw [← hq] at hy hnew hnend hql HD
      rw [← hy] at hnew hnend
      have hyl : y ≤ 2 * n := by omega
      have HN := Lib.hid hnew
      have HE := Lib.hid hnend
      have hlq : (words q).length ≤ L + 1 := by rw [HL.out]; exact words_len_four (by omega)
      have hls : (words (gk + q)).length ≤ L + 1 := by rw [HL.out]; exact words_len_four (by omega)
      have hly : (words y).length ≤ L + 1 := by rw [HL.out]; exact words_len_four (by omega)
      have HY : Hid ((gk + q) / 2 ^ 1 = y) := by show (gk + q) / 2 ^ 1 = y; omega
      clear hdc hnew hnend hy hq
      go_wp2_with fail
      refine HD.out.mono ?_
      rintro e w3 ⟨Q, cq, R, cr, rfl, hcq, hcmq, hcr, hcmr, hWQ, hWR, hb3⟩
      have HQ := Lib.hid hWQ
      clear hWQ hWR HD
      go_wp2_with fail
      have hX3 : Ws w3 w3.heap.size X (words gk) := (hX.out.below hb3 (Nat.le_refl _)).more hb3.size
      refine (nadd_calls X Q cx cq gk q w3 hcx hcq (by omega) (by omega) hX3 HQ.out).mono ?_
      rintro e w4 ⟨S, cs, rfl, hcs, hcms, hWS, hb4⟩
      have hsr := nshr_calls S cs (gk + q) 1 w4 hcs hcms (by omega) (by omega) hWS
      rw [HY.out] at hsr
      have HSR := Lib.hid hsr
      have HX3 := Lib.hid hX3
      clear hWS hX3 hsr
      go_wp2_with fail
      refine HSR.out.mono ?_
      rintro e w5 ⟨Y, cy, rfl, hcy, hcmy, hWY, hb5⟩
      have hb45 := hb4.trans (hb5.mono hb4.size)
      have hX5 : Ws w5 w5.heap.size X (words gk) := (HX3.out.below hb45 (Nat.le_refl _)).more hb45.size
      have hcc := ncmp_calls Y X cy cx w5.heap.size w5.heap.size y gk w5 (by omega) (by omega) hWY hX5
      have HC := Lib.hid hcc
      have HYW := Lib.hid hWY
      have HX5 := Lib.hid hX5
      have hbw5 : Below w.heap.size w w5 := (hb.trans (hb3.mono hb.size)).trans (hb45.mono (Nat.le_trans hb.size hb3.size))
      clear hX5 hcc hWY
      go_wp2_with fail
      refine HC.out.mono ?_
      rintro e w6 ⟨rfl, nq, hw6⟩
      subst hw6
      by_cases hlt : y < gk
      · have hci : cmpI y gk = -1 := by unfold cmpI; rw [if_pos hlt]
        rw [hci]
        have hypos : 0 < y := by
          refine Nat.pos_of_ne_zero fun e => ?_
          have := HN.out
          rw [e] at this
          omega
        go_wp2
        go_roundg y
        case measure => exact hlt
        case rel => exact ⟨Y, cy, rfl, hcy, hcmy, HYW.out, HN.out, hyl, hypos, hbw5.trans (below_drewN _ _ _)⟩
      · have hci : ∃ z : Nat, cmpI y gk = (z : Int) := by
          unfold cmpI
          rw [if_neg hlt]
          split
          · exact ⟨0, rfl⟩
          · exact ⟨1, rfl⟩
        obtain ⟨z, hz⟩ := hci
        rw [hz]
        have hres : NDone w r (.returned (.slice X (words gk).length cx)) (w5.drewN nq) := by
          have e : gk = r := root_unique hr1 hr2 (HE.out (by omega)) hgt.out
          rw [← e]
          exact ⟨X, cx, rfl, hcx, hcmx, HX5.out, hbw5.trans (below_drewN _ _ _)⟩
        have HR := Lib.hid hres
        clear hres hr1 hr2
        go_wp2
        go_ret
        exact HR.out
end Go.Proofs.YtjbdadhggejoiaaGreatDoor

namespace Go.Proofs.YtjbdadhggejoiaaGreatDoor
open Go.RowKit
set_option maxRecDepth 100000

/-- a block of a sign and a slice -/
def Two (w : World) (b : Nat) : Prop := ∃ x A n c t, w.heap[b]? = some (.cells #[.bool x, .slice A n c] t (0, 0))
/-- block b holds the number z -/
def IR (w : World) (b : Nat) (z : Int) : Prop := ∃ A c t, w.heap[b]? = some (.cells #[.bool (decide (z < 0)), .slice A (words z.natAbs).length c] t (0, 0)) ∧ (words z.natAbs).length ≤ c ∧ c ≤ maxLen ∧ Ws w w.heap.size A (words z.natAbs)
section
variable {w w' : World} {b b' : Nat} {z : Int} {B : Nat} {A : Option Addr} {l : List Nat}
theorem IR.two (h : IR w b z) : Two w b := by
  obtain ⟨A, c, t, h, _⟩ := h
  exact ⟨_, _, _, _, _, h⟩
theorem Two.lt (h : Two w b) : b < w.heap.size := by
  obtain ⟨_, _, _, _, _, h⟩ := h
  exact (Array.getElem?_eq_some_iff.1 h).1
theorem IR.lt (h : IR w b z) : b < w.heap.size := h.two.lt
theorem IR.open (h : IR w b z) : ∃ A c, w.cell? ⟨b, 0, none⟩ = some (.bool (decide (z < 0))) ∧ w.cell? ⟨b, 1, none⟩ = some (.slice A (words z.natAbs).length c) ∧ (words z.natAbs).length ≤ c ∧ c ≤ maxLen ∧ Ws w w.heap.size A (words z.natAbs) := by
  obtain ⟨A, c, t, h, h1, h2, h3⟩ := h
  exact ⟨A, c, by rw [cell_of_row w b 0 _ t _ h]; rfl, by rw [cell_of_row w b 1 _ t _ h]; rfl, h1, h2, h3⟩
theorem Two.open (h : Two w b) : ∃ x A n c, w.cell? ⟨b, 0, none⟩ = some (.bool x) ∧ w.cell? ⟨b, 1, none⟩ = some (.slice A n c) ∧ w.frozen? ⟨b, 0, none⟩ = false ∧ w.frozen? ⟨b, 1, none⟩ = false := by
  obtain ⟨x, A, n, c, t, h⟩ := h
  exact ⟨x, A, n, c, by rw [cell_of_row w b 0 _ t _ h]; rfl, by rw [cell_of_row w b 1 _ t _ h]; rfl, frozen_of_row w b 0 _ t h, frozen_of_row w b 1 _ t h⟩
/-- words do not lie in such a block -/
theorem Two.apart (h : Two w b) (hw : Ws w B A l) (hl : 0 < l.length) : ∀ ad, A = some ad → ad.block ≠ b := by
  intro ad e hb
  obtain ⟨x, A', n, c, t, h⟩ := h
  obtain ⟨ad', e', _, hc⟩ := hw.at_ 0 hl
  rw [e] at e'
  injection e' with e'
  subst e'
  change w.cell? ad = _ at hc
  unfold World.cell? at hc
  rw [hb, h] at hc
  simp only at hc
  obtain ⟨blk, off, sp⟩ := ad
  simp only at hc
  cases sp with
  | none =>
    match off with
    | 0 => simp at hc
    | 1 => simp at hc
    | k + 2 => simp at hc
  | some s => simp at hc
theorem Ws.grown (hw : Ws w B A l) (hB : B ≤ w.heap.size) (hg : w.grownBy w' (some b)) (h2 : Two w b) : Ws w' w'.heap.size A l := by
  refine ⟨hw.1, fun h0 => ?_⟩
  have hap := h2.apart hw h0
  obtain ⟨ad, e, hb, hc⟩ := hw.2 h0
  have hne := hap ad e
  refine ⟨ad, e, Nat.lt_of_lt_of_le hb (Nat.le_trans hB hg.size), fun j u hu => ?_⟩
  refine (World.cell?_of_block (w := w) ?_).trans (hc j u hu)
  rw [addr_block]
  exact hg.block _ (Nat.lt_of_lt_of_le hb hB) (fun e => hne (Option.some.inj e))
theorem Ws.grown0 (hw : Ws w B A l) (hB : B ≤ w.heap.size) (hg : w.grownBy w' none) : Ws w' w'.heap.size A l := by
  refine ⟨hw.1, fun h0 => ?_⟩
  obtain ⟨ad, e, hb, hc⟩ := hw.2 h0
  refine ⟨ad, e, Nat.lt_of_lt_of_le hb (Nat.le_trans hB hg.size), fun j u hu => ?_⟩
  refine (World.cell?_of_block (w := w) ?_).trans (hc j u hu)
  rw [addr_block]
  exact hg.block _ (Nat.lt_of_lt_of_le hb hB) (fun e => by cases e)
theorem IR.grown (h : IR w b z) (hg : w.grownBy w' (some b')) (hb : b ≠ b') (h2 : Two w b') : IR w' b z := by
  have hlt := h.lt
  obtain ⟨A, c, t, h, h1, h3, h4⟩ := h
  exact ⟨A, c, t, (hg.block b hlt (fun e => hb (Option.some.inj e))).trans h, h1, h3, h4.grown (Nat.le_refl _) hg h2⟩
theorem IR.grown0 (h : IR w b z) (hg : w.grownBy w' none) : IR w' b z := by
  have hlt := h.lt
  obtain ⟨A, c, t, h, h1, h3, h4⟩ := h
  exact ⟨A, c, t, (hg.block b hlt (fun e => by cases e)).trans h, h1, h3, h4.grown0 (Nat.le_refl _) hg⟩
theorem Two.grown (h : Two w b) (hg : w.grownBy w' (some b')) (hb : b ≠ b') : Two w' b := by
  have hlt := h.lt
  obtain ⟨x, A, n, c, t, h⟩ := h
  exact ⟨x, A, n, c, t, (hg.block b hlt (fun e => hb (Option.some.inj e))).trans h⟩
theorem Two.grown0 (h : Two w b) (hg : w.grownBy w' none) : Two w' b := by
  have hlt := h.lt
  obtain ⟨x, A, n, c, t, h⟩ := h
  exact ⟨x, A, n, c, t, (hg.block b hlt (fun e => by cases e)).trans h⟩
theorem grown_of_below (h : Below w.heap.size w w') (r : Option Nat) : w.grownBy w' r := ⟨h.os, h.tape, h.output, h.size, fun k hk _ => h.block k hk⟩
theorem below_of_grown0 (h : w.grownBy w' none) : Below w.heap.size w w' := ⟨h.os, h.tape, h.output, h.size, fun k hk => h.block k hk (fun e => by cases e)⟩
theorem below_of_grown (h : w.grownBy w' (some b)) {C : Nat} (hC : C ≤ b) (hb : b < w.heap.size) : Below C w w' := ⟨h.os, h.tape, h.output, h.size, fun k hk => h.block k (by omega) (fun e => by injection e with e; omega)⟩
theorem grown_alloc (w : World) (o : Obj) (r : Option Nat) : w.grownBy (w.alloc o) r := World.grownBy_alloc w o r
end
/-- what a method leaves that sets its receiver -/
def Put (w : World) (b : Nat) (z : Int) (e : Ending) (w' : World) : Prop := e = .returned (.pointer (some ⟨b, 0, none⟩)) ∧ IR w' b z ∧ w.grownBy w' (some b)

theorem put_world {w : World} {b : Nat} (h : Two w b) (y : Bool) (A : Option Addr) (L c : Nat) :
    (∃ t, ((w.setCell ⟨b, 0, none⟩ (.bool y)).setCell ⟨b, 1, none⟩ (.slice A L c)).heap[b]? = some (.cells #[.bool y, .slice A L c] t (0, 0))) ∧ w.grownBy ((w.setCell ⟨b, 0, none⟩ (.bool y)).setCell ⟨b, 1, none⟩ (.slice A L c)) (some b) := by
  obtain ⟨x, A0, n0, c0, t, h⟩ := h
  have h1 := heap_setCell_same w b 0 _ t (.bool y) h
  have h2 := heap_setCell_same _ b 1 _ t (.slice A L c) h1
  exact ⟨⟨t, h2⟩, ⟨rfl, rfl, rfl, by simp, fun k _ hk => by
    rw [heap_setCell_other _ _ _ _ (fun e => hk (by simp [e])), heap_setCell_other _ _ _ _ (fun e => hk (by simp [e]))]⟩⟩

set_option maxHeartbeats 4000000 in
theorem put_calls (b c m : Nat) (z : Int) (neg : Bool) (A : Option Addr) (w : World) (h2 : Two w b) (hm : m = z.natAbs) (hneg : decide (z < 0) = (neg && decide (0 < m))) (hc : (words m).length ≤ c) (hcm : c ≤ maxLen) (hW : Ws w w.heap.size A (words m)) :
    Calls Tryz.prog 119 #[.pointer (some ⟨b, 0, none⟩), .bool neg, .slice A (words m).length c] w fun e w' => Put w b z e w' := by
  obtain ⟨x, A0, n0, c0, g1, g2, g3, g4⟩ := h2.open
  have H2 := Lib.hid h2
  have HW := Lib.hid hW
  have HN := Lib.hid hneg
  have HM := Lib.hid hm
  have hpos : decide (0 < (words m).length) = decide (0 < m) := by
    rw [decide_eq_decide]
    constructor
    · intro h
      refine Nat.pos_of_ne_zero fun e => ?_
      subst e
      simp [words_zero] at h
    · intro h
      refine Nat.pos_of_ne_zero fun e => ?_
      have := val_words m
      rw [List.eq_nil_of_length_eq_zero e] at this
      simp only [val] at this
      omega
  have HP := Lib.hid hpos
  obtain ⟨L, hL⟩ : ∃ L, L = (words m).length := ⟨_, rfl⟩
  rw [← hL] at hc ⊢
  have HL := Lib.hid hL
  clear h2 hW hneg hm hL hpos
  go_enter Tryz.func119, Tryz.ntmps119
  go_wp2
  all_goals
    have hd : ∀ y, decide (z < 0) = y → Put w b z (.returned (.pointer (some ⟨b, 0, none⟩))) ((w.setCell ⟨b, 0, none⟩ (.bool y)).setCell ⟨b, 1, none⟩ (.slice A L c)) := fun y hy => by
      obtain ⟨⟨t, e1⟩, e2⟩ := put_world H2.out y A L c
      refine ⟨rfl, ⟨A, c, t, ?_, ?_, hcm, ?_⟩, e2⟩
      · rw [e1, hy, ← HM.out, HL.out]
      · rw [← HM.out, ← HL.out]; exact hc
      · rw [← HM.out]; exact HW.out.grown (Nat.le_refl _) e2 H2.out
    go_ret
    refine hd _ ?_
    rw [HN.out, ← HP.out, ← HL.out]
    simp_all
end Go.Proofs.YtjbdadhggejoiaaGreatDoor
