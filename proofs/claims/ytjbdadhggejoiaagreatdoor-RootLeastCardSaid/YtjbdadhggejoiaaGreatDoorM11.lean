/- 'div' divides. -/
import Derived.Test.YtjbdadhggejoiaaGreatDoorM10
import Derived.Test.YtjbdadhggejoiaaGreatDoorM09
import Derived.Test.YtjbdadhggejoiaaGreatDoorM08

namespace Go.Proofs.YtjbdadhggejoiaaGreatDoor
open Go.RowKit
set_option maxRecDepth 100000

/-- What a call leaves that makes two numbers. -/
def NDone2 (w : World) (n m : Nat) (e : Ending) (w' : World) : Prop := ∃ A c A2 c2, e = .returned (.tuple #[.slice A (words n).length c, .slice A2 (words m).length c2]) ∧ (words n).length ≤ c ∧ c ≤ maxLen ∧ (words m).length ≤ c2 ∧ c2 ≤ maxLen ∧ Ws w' w'.heap.size A (words n) ∧ Ws w' w'.heap.size A2 (words m) ∧ Below w.heap.size w w'

theorem words_len {n k : Nat} (h1 : 4294967296 ^ k ≤ n) (h2 : n < 4294967296 ^ (k + 1)) : (words n).length = k + 1 := by
  have hn : words n ≠ [] := fun e => by
    have := val_words n
    rw [e] at this
    have h3 : 0 < 4294967296 ^ k := Nat.pow_pos (by decide)
    simp only [val] at this
    omega
  have hp : 0 < (words n).length := List.length_pos_iff.2 hn
  have a := val_lt (words_isW n)
  have b := val_ge (canon_of n) hn
  rw [val_words] at a b
  have c : k < (words n).length := (Nat.pow_lt_pow_iff_right (by decide)).1 (Nat.lt_of_le_of_lt h1 a)
  have d : (words n).length - 1 < k + 1 := (Nat.pow_lt_pow_iff_right (by decide)).1 (Nat.lt_of_le_of_lt b h2)
  omega
theorem words_len_le {n m : Nat} (h : n ≤ m) : (words n).length ≤ (words m).length := by
  refine Nat.le_of_not_lt fun hc => ?_
  have := words_lt hc
  omega
/-- the divisor, its highest bit set -/
theorem norm_div {d k t s : Nat} (hk : (words d).length = k + 1) (ht : (words d)[k]? = some t) (hs : s = 32 - Go.bitLen t) :
    s < 32 ∧ (words (d * 2 ^ s)).length = k + 1 ∧ (∀ h : k < (words (d * 2 ^ s)).length, 2147483648 ≤ (words (d * 2 ^ s))[k]) ∧ 4294967296 ^ k ≤ d * 2 ^ s := by
  obtain ⟨hb, ht0, htw⟩ := bl_words hk ht
  have hb1 := bl_pos ht0
  have hb2 : Go.bitLen t ≤ 32 := by
    unfold Go.bitLen
    rw [if_neg ht0]
    have := (Nat.log2_lt ht0).2 (show t < 2 ^ 32 from htw)
    omega
  obtain ⟨h1, h2⟩ := bitLen_spec d
  have hd0 : d ≠ 0 := fun e => by subst e; simp [words_zero] at hk
  have h3 := h2 hd0
  rw [hb] at h1 h3
  have e1 : 2 ^ (32 * k + Go.bitLen t) * 2 ^ s = 4294967296 ^ (k + 1) := by
    rw [← Nat.pow_add, show 32 * k + Go.bitLen t + s = 32 * (k + 1) by omega, Nat.pow_mul]
  have e2 : 2 ^ (32 * k + Go.bitLen t - 1) * 2 ^ s = 4294967296 ^ k * 2147483648 := by
    rw [← Nat.pow_add, show 32 * k + Go.bitLen t - 1 + s = 32 * k + 31 by omega, Nat.pow_add, Nat.pow_mul]
  have hlo : 4294967296 ^ k * 2147483648 ≤ d * 2 ^ s := by rw [← e2]; exact Nat.mul_le_mul_right _ h3
  have hhi : d * 2 ^ s < 4294967296 ^ (k + 1) := by rw [← e1]; exact Nat.mul_lt_mul_of_pos_right h1 (Nat.two_pow_pos s)
  have hge : 4294967296 ^ k ≤ d * 2 ^ s := Nat.le_trans (Nat.le_mul_of_pos_right _ (by decide)) hlo
  have hlen := words_len hge hhi
  refine ⟨by omega, hlen, fun h => ?_, hge⟩
  rw [words_at h]
  have h5 : d * 2 ^ s / 4294967296 ^ k < 4294967296 := by
    rw [Nat.div_lt_iff_lt_mul (Nat.pow_pos (by decide)), ← Nat.pow_succ']
    exact hhi
  rw [Nat.mod_eq_of_lt h5, Nat.le_div_iff_mul_le (Nat.pow_pos (by decide)), Nat.mul_comm]
  exact hlo
theorem div_step {ul ul' ql : List Nat} {j V N qd : Nat} (hj : j < ql.length) (hju : j < ul.length) (hl : ul'.length = ul.length) (ht : ul'.take j = ul.take j) (hq : qd = val (ul.drop j) / V) (hm : val (ul'.drop j) = val (ul.drop j) % V)
    (hV : val ul + 4294967296 ^ (j + 1) * (V * val (ql.drop (j + 1))) = N) : val ul' + 4294967296 ^ j * (V * val ((ql.set j qd).drop j)) = N := by
  have h1 : (ql.set j qd).drop j = qd :: ql.drop (j + 1) := by
    rw [List.drop_eq_getElem_cons (by simp; omega), List.getElem_set_self, List.drop_set_of_lt (by omega)]
  rw [h1, val, val_split ul' j (by omega), ht, hm]
  rw [val_split ul j (by omega), Nat.pow_succ] at hV
  have e : val (ul.drop j) % V + V * (qd + 4294967296 * val (ql.drop (j + 1))) = val (ul.drop j) + V * (4294967296 * val (ql.drop (j + 1))) := by
    rw [hq, Nat.mul_add, ← Nat.add_assoc, Nat.mod_add_div]
  rw [← hV, Nat.add_assoc, ← Nat.mul_add, e, Nat.mul_add, Nat.mul_left_comm V, Nat.mul_assoc, Nat.add_assoc]
theorem div_end {n d s : Nat} {ul ql : List Nat} (hd : 0 < d) (h : val ul + 4294967296 ^ 0 * (d * 2 ^ s * val (ql.drop 0)) = n * 2 ^ s) (hlt : val (ul.drop 0) < d * 2 ^ s) : val ql = n / d ∧ val ul = n % d * 2 ^ s := by
  simp only [Nat.pow_zero, Nat.one_mul, List.drop_zero] at h hlt
  have hp : 0 < d * 2 ^ s := Nat.mul_pos hd (Nat.two_pow_pos s)
  have h1 : n * 2 ^ s / (d * 2 ^ s) = val ql := by
    rw [← h, Nat.add_mul_div_left _ _ hp, Nat.div_eq_of_lt hlt, Nat.zero_add]
  have h2 : n * 2 ^ s % (d * 2 ^ s) = val ul := by
    rw [← h, Nat.add_mul_mod_self_left, Nat.mod_eq_of_lt hlt]
  rw [Nat.mul_div_mul_right _ _ (Nat.two_pow_pos s)] at h1
  rw [Nat.mul_mod_mul_right] at h2
  exact ⟨h1.symm, h2.symm⟩

set_option maxHeartbeats 4000000 in
theorem ndiv_calls (A A2 : Option Addr) (c c2 n d : Nat) (w : World) (hc : (words n).length ≤ c) (hcm : c ≤ maxLen) (hc2 : (words d).length ≤ c2) (hl : (words n).length ≤ 536870912) (hl2 : (words d).length ≤ 536870912) (hd : d ≠ 0) (h : Ws w w.heap.size A (words n)) (h2 : Ws w w.heap.size A2 (words d)) :
    Calls Tryz.prog 134 #[.slice A (words n).length c, .slice A2 (words d).length c2] w fun e w' => NDone2 w (n / d) (n % d) e w' := by
  obtain ⟨i0, hi0, hz0, hz1, hz2⟩ := info_parts wordInfo
  have HH := Lib.hid h; have H2 := Lib.hid h2
  have hne : ∀ n, n ≠ 0 → (words n).length ≠ 0 := fun n hn e => by
    have := val_words n
    rw [List.eq_nil_of_length_eq_zero e] at this
    exact hn this.symm
  have hcmp := ncmp_calls A A2 c c2 w.heap.size w.heap.size n d w (by omega) (by omega) h h2
  have HC := Lib.hid hcmp
  clear h h2 hcmp
  by_cases hlt : n < d
  · have hci : cmpI n d = -1 := by unfold cmpI; rw [if_pos hlt]
    have hx : ∀ q, NDone2 w (n / d) (n % d) (.returned (.tuple #[.slice none 0 0, .slice A (words n).length c])) (w.drewN q) := fun q => by
      rw [Nat.div_eq_of_lt hlt, Nat.mod_eq_of_lt hlt]
      exact ⟨none, 0, A, c, rfl, Nat.le_refl _, by decide, hc, hcm, Ws.nil, HH.out, ⟨rfl, rfl, rfl, Nat.le_refl _, fun _ _ => rfl⟩⟩
    have HX := Lib.hid hx
    clear hx
    obtain ⟨L, hL⟩ : ∃ L, L = (words n).length := ⟨_, rfl⟩
    obtain ⟨L2, hL2⟩ : ∃ L, L = (words d).length := ⟨_, rfl⟩
    rw [← hL] at HX HC ⊢
    rw [← hL2] at HC ⊢
    clear hL hL2 hl hc hc2 hl2
    go_enter Tryz.func134, Tryz.ntmps134
    go_wp2_with fail
    refine HC.out.mono ?_
    rintro e w2 ⟨rfl, q, rfl⟩
    rw [hci]
    go_wp2
    refine bodyPost_ret (v := .tuple #[.slice none 0 0, .slice A L c]) ?_ rfl (HX.out q)
    simp_all [results, Tryz.results134, go_sem]
  · have hci : ∃ y : Nat, cmpI n d = (y : Int) := by
      unfold cmpI
      rw [if_neg hlt]
      split
      · exact ⟨0, rfl⟩
      · exact ⟨1, rfl⟩
    obtain ⟨y, hy⟩ := hci
    have hdl := hne d hd
    have hyn : ¬ ((y : Int) < 0) := by omega
    by_cases h1 : (words d).length = 1
    · obtain ⟨t, htl⟩ : ∃ t, words d = [t] := List.length_eq_one_iff.1 h1
      have htd : t = d := by
        have := val_words d
        rw [htl] at this
        simpa [val] using this
      subst htd
      have ht32 : t < 4294967296 := words_isW t t (by rw [htl]; simp)
      obtain ⟨ad, hA2, _, g1⟩ := H2.out.at_ 0 (by omega)
      subst hA2
      have e0 : (words t)[0]'(by omega) = t := by simp [htl]
      rw [e0] at g1
      change w.cell? ad = _ at g1
      obtain ⟨r, hr⟩ : ∃ r, r = n % t := ⟨_, rfl⟩
      have hrb : r < 4294967296 := by rw [hr]; have := Nat.mod_lt n (show t > 0 by omega); omega
      have hshort := fun q => nshort_calls A c n t (w.drewN q) hc (by omega) ht32 (by omega) HH.out
      rw [← hr] at hshort ⊢
      have HS := Lib.hid hshort
      rw [h1] at hc2 HC ⊢
      clear hshort hdl hne htl hr
      go_enter Tryz.func134, Tryz.ntmps134
      go_wp2_with fail
      refine HC.out.mono ?_
      rintro e w2 ⟨rfl, q, rfl⟩
      rw [hy]
      go_wp2_with fail
      refine (HS.out q).mono ?_
      rintro e w3 ⟨X, cx, rfl, hcx, hcmx, hWX, hb3⟩
      have HX := Lib.hid hWX
      have hsm := nsmall_calls r (by omega) w3
      have HSM := Lib.hid hsm
      clear hWX hsm
      go_wp2_with fail
      refine HSM.out.mono ?_
      rintro e w4 ⟨Y, cy, rfl, hcy, hcmy, hWY, hb4⟩
      have hres : NDone2 w (n / t) r (.returned (.tuple #[.slice X (words (n / t)).length cx, .slice Y (words r).length cy])) w4 :=
        ⟨X, cx, Y, cy, rfl, hcx, hcmx, hcy, hcmy, (HX.out.below hb4 (Nat.le_refl _)).more hb4.size, hWY, (below_of_drewN hb3 (Nat.le_refl _)).trans (hb4.mono hb3.size)⟩
      have HRs := Lib.hid hres
      clear hres hWY
      go_wp2
      refine bodyPost_ret (v := .tuple #[.slice X (words (n / t)).length cx, .slice Y (words r).length cy]) ?_ rfl HRs.out
      simp_all [results, Tryz.results134, go_sem]
    · obtain ⟨k, hk⟩ : ∃ k, (words d).length = k + 2 := ⟨(words d).length - 2, by omega⟩
      obtain ⟨ad, hA2, _, g1⟩ := H2.out.at_ (k + 1) (by omega)
      subst hA2
      obtain ⟨t, ht⟩ : ∃ t, t = (words d)[k + 1]'(by omega) := ⟨_, rfl⟩
      rw [← ht] at g1
      rw [addr_succ _ _ (by omega)] at g1
      have ht2 : (words d)[k + 1]? = some t := by rw [ht]; exact List.getElem?_eq_getElem _
      obtain ⟨s, hs⟩ : ∃ s, s = 32 - Go.bitLen t := ⟨_, rfl⟩
      obtain ⟨hs32, hVl, hVt, hVge⟩ := norm_div hk ht2 hs
      obtain ⟨_, ht0, htw⟩ := bl_words hk ht2
      have hcall := fun w => Tryz.bits_LeadingZeros32 (t : Int) w (by omega) (by omega)
      simp only [Int.toNat_natCast, bl_lib (show t < 18446744073709551616 by omega)] at hcall
      have hbl32 : Go.bitLen t ≤ 32 := by
        unfold Go.bitLen
        rw [if_neg ht0]
        have := (Nat.log2_lt ht0).2 (show t < 2 ^ 32 from htw)
        omega
      have hse : (32 - (Go.bitLen t : Int)) = (s : Int) := by omega
      simp only [hse] at hcall
      have HCL := Lib.hid hcall
      obtain ⟨L, hL⟩ : ∃ L, L = (words n).length := ⟨_, rfl⟩
      have hLd : k + 2 ≤ L := by rw [hL, ← hk]; exact words_len_le (Nat.le_of_not_lt hlt)
      have hn0 : n ≠ 0 := by omega
      have hLN1 : L ≤ (words (n * 2 ^ s)).length := by rw [hL]; exact words_len_le (Nat.le_mul_of_pos_right _ (Nat.two_pow_pos s))
      have hLN2 : (words (n * 2 ^ s)).length ≤ L + 1 := by
        have h1 := val_lt (words_isW n)
        rw [val_words, ← hL] at h1
        have h2 : n * 2 ^ s < 4294967296 ^ (L + 1) := by
          rw [Nat.pow_succ]
          have h3 : (2 : Nat) ^ s ≤ 2 ^ 32 := Nat.pow_le_pow_right (by decide) (by omega)
          have h4 : n * 2 ^ s < 4294967296 ^ L * 2 ^ s := Nat.mul_lt_mul_of_pos_right h1 (Nat.two_pow_pos s)
          have h5 : 4294967296 ^ L * 2 ^ s ≤ 4294967296 ^ L * 4294967296 := Nat.mul_le_mul_left _ h3
          omega
        refine Nat.le_of_not_lt fun hc => ?_
        have h6 := val_ge (canon_of (n * 2 ^ s)) (fun e => by rw [e] at hc; simp at hc)
        rw [val_words] at h6
        have h7 : (4294967296 : Nat) ^ (L + 1) ≤ 4294967296 ^ ((words (n * 2 ^ s)).length - 1) := Nat.pow_le_pow_right (by decide) (by omega)
        omega
      have HVt := Lib.hid hVt
      have HVge := Lib.hid hVge
      have HVl : Hid ((words (d * 2 ^ s)).length = k + 2) := hVl
      obtain ⟨LN, hLN⟩ : ∃ LN, LN = (words (n * 2 ^ s)).length := ⟨_, rfl⟩
      rw [← hLN] at hLN1 hLN2
      have HLN := Lib.hid hLN
      rw [hk] at hc2 HC hl2 ⊢
      rw [← hL] at hl hc HC ⊢
      have HL := Lib.hid hL
      have HK := Lib.hid hk
      clear hVt hVge hVl hLN hL hk hdl hne ht2 hs hcall ht hse h1
      go_enter Tryz.func134, Tryz.ntmps134
      go_wp2_with fail
      refine HC.out.mono ?_
      rintro e w2 ⟨rfl, q, rfl⟩
      rw [hy]
      go_wp2_with fail
      refine (HCL.out _).mono ?_
      rintro e w2 ⟨rfl, rfl⟩
      have hsh := nshl_calls (some ad) c2 d s (w.drewN q) (by rw [HK.out]; exact hc2) (by rw [HK.out]; omega) (by omega) H2.out
      rw [HK.out] at hsh
      have HSH := Lib.hid hsh
      clear hsh
      go_wp2_with fail
      refine HSH.out.mono ?_
      rintro e w3 ⟨X1, c3, rfl, hc3, hcm3, hW3, hb3⟩
      have HW3 := Lib.hid hW3
      rw [HVl.out] at hc3 ⊢
      have hsh := nshl_calls A c n s w3 (by rw [← HL.out]; exact hc) (by rw [← HL.out]; omega) (by omega) ((HH.out.below (below_of_drewN hb3 (Nat.le_refl _)) (Nat.le_refl _)).more hb3.size)
      rw [← HL.out] at hsh
      have HSN := Lib.hid hsh
      clear hsh hW3
      go_wp2_with fail
      refine HSN.out.mono ?_
      rintro e w4 ⟨X2, c4, rfl, hc4, hcm4, hW4, hb4⟩
      have hX2 : X2 ≠ none := fun e => by
        obtain ⟨ad, e', _⟩ := hW4.at_ 0 (by rw [← HLN.out]; omega)
        rw [e] at e'
        cases e'
      have hcl := clone_own X2 c4 _ w4 hc4 (by rw [← HLN.out]; omega) hW4 hX2
      have HCl := Lib.hid hcl
      rw [← HLN.out] at hc4 ⊢
      rw [← HLN.out] at HCl
      clear hcl hW4 hX2
      go_wp2_with fail
      refine HCl.out.mono ?_
      rintro e w5 ⟨v5, rfl, hO5, hb5⟩
      rw [← HLN.out] at hO5
      have hq3 : (((LN : Int) + 1) == (L : Int)) = false := by rw [beq_eq_false_iff_ne]; omega
      obtain ⟨lq, hlq⟩ : ∃ lq, lq = LN + 1 - (k + 2) := ⟨_, rfl⟩
      have hlqI : ((LN : Int) + 1 - ((k : Int) + 2)) = (lq : Int) := by omega
      have hlqb : lq ≤ 536870913 := by omega
      have HLQ : Hid (LN + 1 = lq + (k + 2)) := (show LN + 1 = lq + (k + 2) by omega)
      clear hlq
      go_wp2_with (first
        | (at_builtin; (refine wpList_append_own_at _ (by rfl) (.tmp 47) (.tmp 48) 104 (by rfl) w4.heap.size 51 i0 _ 1 4 Tryz.underlying104 hi0 hz0 hz1 hz2 rfl (by omega) _ LN _ (by rfl) (hO5.out.alloc _) ⟨w5.heap.size, 0, none⟩ 1 1 [.int .u32 0] (by rfl) (by rfl) (news_next #[.int .u32 0] 51 (by simp)) (by simp [Value.oneCell']) (by simp only [maxLen]; omega) (by omega) (by simp; have := hb5.size; omega) ?_); intro v6 w6 hown6 hgrow6 hnil6 hat6;
            have ho6 := u_snoc (d := 0) hown6 rfl;
            have hb6 := below_app0 (B := w4.heap.size) hb5 hgrow6 hb5.size (fun k hk => (hO5.out.lt _ hk).1);
            clear hown6 hgrow6 hnil6 hat6;
            rcases ho6.out.2 with ⟨_, h0⟩ | ⟨g, cu, cur, hv6, hbg, hhg, hccu, _⟩;
            (exact absurd h0 (by omega));
            have hgs : g < w6.heap.size := (Array.getElem?_eq_some_iff.1 hhg).1;
            clear hhg; subst hv6)
        | (at_make; refine wpList_make_len _ (by rfl) _ _ 104 (by rfl) w4.heap.size 51 i0 (.int .u32 0) Tryz.underlying104 hi0 hz0 hz1 rfl .i64 .i64 _ _ lq lq (by rfl) (by rfl) (by omega) (by omega) (by omega) (by rw [hz2]; omega) (by unfold maxLen; omega) (by have := hb6.size; omega) ?_; intro w7 hown7 hgrow7))
      have hbw4 : Below w.heap.size w w4 := (below_of_drewN hb3 (Nat.le_refl _)).trans (hb4.mono hb3.size)
      have hW4v : Ws w4 w4.heap.size X1 (words (d * 2 ^ s)) := (HW3.out.below hb4 (Nat.le_refl _)).more hb4.size
      have hb7 : Below w4.heap.size w4 w7 := hb6.grown hgrow7 hb6.size (fun k h => by cases h)
      have ho7 : Hid (w7.ownsRow w4.heap.size 51 1 (.slice (some ⟨g, 0, none⟩) (LN + 1) cu) (LN + 1) (uCells (words (n * 2 ^ s) ++ [0]))) := ho6.out.kept hgrow7 (.inr (by simp [Value.ownBlock]))
      obtain ⟨av, hav, havb, _⟩ := hW4v.at_ 0 (by rw [HVl.out]; omega)
      subst hav
      have HWv := Lib.hid hW4v
      have h67 := hgrow7.size
      have h46 := hb6.size
      clear hW4v
      go_loopw [12] (fun v12 wx => ∃ (j : Nat) (ul ql : List Nat), j ≤ lq ∧ v12 = .int .i64 ((j : Int) - 1) ∧ Hid (wx.ownsRow w4.heap.size 51 1 (.slice (some ⟨g, 0, none⟩) (LN + 1) cu) (LN + 1) (uCells ul)) ∧ Hid (wx.ownsRow w4.heap.size 51 1 (.slice (some ⟨w6.heap.size, 0, none⟩) lq lq) lq (uCells ql)) ∧ ul.length = LN + 1 ∧ ql.length = lq ∧ Hid (IsW ul ∧ IsW ql ∧ val (ul.drop j) < d * 2 ^ s ∧ val ul + 4294967296 ^ j * (d * 2 ^ s * val (ql.drop j)) = n * 2 ^ s) ∧ Below w4.heap.size w4 wx) (fun v12 _ => (intOf v12 + 1).toNat)
      case atStart =>
        have hlt0 : val ((words (n * 2 ^ s) ++ [0]).drop lq) < d * 2 ^ s := by
          have h1 : (words (n * 2 ^ s) ++ [0]).drop lq = (words (n * 2 ^ s)).drop lq ++ [0] := List.drop_append_of_le_length (by rw [← HLN.out]; have := HLQ.out; omega)
          rw [h1, val_snoc, Nat.mul_zero, Nat.add_zero]
          refine Nat.lt_of_lt_of_le (val_lt_len (n := k + 1) ((words_isW _).drop lq) ?_) HVge.out
          rw [List.length_drop, ← HLN.out]
          have := HLQ.out
          omega
        refine ⟨lq, words (n * 2 ^ s) ++ [0], List.replicate lq 0, Nat.le_refl _, rfl, ho7, (show World.ownsRow _ _ _ _ _ _ _ by simpa [uCells, U] using hown7), by simp [← HLN.out], by simp, ⟨(words_isW _).snoc (by decide), fun y hy => by have := (List.mem_replicate.1 hy).2; omega, hlt0, ?_⟩, hb7⟩
        rw [val_snoc, val_words]
        simp [val]
      case round =>
        clear ho6 ho7 hown7 hgrow7 hO5 hb7 hb6 hb5
        obtain ⟨j, ul, ql, hj, rfl, hOu, hOq, hul, hql, hI, hb⟩ := hrel
        by_cases hj0 : 0 < j
        · obtain ⟨j, rfl⟩ : ∃ i, j = i + 1 := ⟨j - 1, by omega⟩
          have ej : (((j + 1 : Nat) : Int) - 1) = (j : Int) := by omega
          rw [ej]
          have hUV : val (ul.drop j) < 4294967296 * val (words (d * 2 ^ s)) := by
            rw [val_words, val_drop (by have := HLQ.out; omega)]
            have h1 := hI.out.1 _ (List.getElem_mem (show j < ul.length by have := HLQ.out; omega))
            have h2 : 4294967296 * (val (ul.drop (j + 1)) + 1) ≤ 4294967296 * (d * 2 ^ s) := Nat.mul_le_mul_left _ hI.out.2.2.1
            omega
          have hst := step_calls g cu w4.heap.size j k c3 (LN + 1 - j) (cu - j) ul (words (d * 2 ^ s)) av wr (by rw [hul]) (by rw [hul]; omega) HVl.out (by rw [hul]; have := HLQ.out; omega) (by rw [HVl.out]; exact hc3) hI.out.1 (words_isW _) HVt.out hUV
            (by rw [hul]; exact hOu) (HWv.out.below hb (Nat.le_refl _)) hbg hb.size
          rw [HVl.out, val_words, hul] at hst
          obtain ⟨qd, hqd⟩ : ∃ qd, qd = val (ul.drop j) / (d * 2 ^ s) := ⟨_, rfl⟩
          have hqdb : qd < 4294967296 := by
            rw [hqd]
            rw [val_words] at hUV
            exact (Nat.div_lt_iff_lt_mul (Nat.mul_pos (by omega) (Nat.two_pow_pos s))).2 hUV
          rw [← hqd] at hst
          have HST := Lib.hid hst
          have HQD := Lib.hid hqd
          have hjL : j + k + 2 ≤ LN := by have := HLQ.out; omega
          clear hst hUV hqd
          go_wp2_with fail
          refine HST.out.mono ?_
          rintro e wd ⟨rfl, ul', hul', hwu', htk', hmd', hOu', hgr'⟩
          have hOq' := hOq.out.kept hgr' (.inr (by simp only [Value.ownBlock, ne_eq, Option.some.injEq]; omega))
          obtain ⟨g3, g4⟩ := own_at hOq' j (by omega)
          have HMD := Lib.hid hmd'
          have HTK := Lib.hid htk'
          have HOU := Lib.hid hOu'
          have HOQ := Lib.hid hOq'
          have hbd := hb.grown hgr' hb.size (fun k hk => by injection hk with hk; omega)
          clear hmd' htk' hOu' hOq' HST
          go_wp2_with fail
          have hnew := div_step (N := n * 2 ^ s) (V := d * 2 ^ s) (by omega : j < ql.length) (by omega : j < ul.length) (by omega : ul'.length = ul.length) HTK.out HQD.out HMD.out hI.out.2.2.2
          refine ⟨⟨j, ul', ql.set j qd, by omega, rfl, ownsRow_setCell_other HOU.out (by simp only [Value.ownBlock, ne_eq, Option.some.injEq]; omega) _, own_set HOQ.out j _ _ rfl, hul', by simp [hql], ⟨hwu', hI.out.2.1.set hqdb, ?_, hnew⟩, hbd.setCell (show w4.heap.size ≤ w6.heap.size from h46) _⟩, by simp [intOf]⟩
          rw [HMD.out]
          exact Nat.mod_lt _ (Nat.mul_pos (by omega) (Nat.two_pow_pos s))
        · obtain rfl : j = 0 := by omega
          obtain ⟨hqe, hue⟩ := div_end (by omega) hI.out.2.2.2 hI.out.2.2.1
          obtain ⟨X, cx, hXe, hcx, hcmx, hX⟩ := own_slice1 hOq.out
          obtain ⟨rfl, rfl⟩ : X = some ⟨w6.heap.size, 0, none⟩ ∧ lq = cx := by
            injection hXe with h1 h2 h3
            exact ⟨h1.symm, h3⟩
          obtain ⟨Y, cy, hYe, hcy, hcmy, hY⟩ := own_slice1 hOu.out
          obtain ⟨rfl, rfl⟩ : Y = some ⟨g, 0, none⟩ ∧ cu = cy := by
            injection hYe with h1 h2 h3
            exact ⟨h1.symm, h3⟩
          have hX2 : Ws wr wr.heap.size (some ⟨w6.heap.size, 0, none⟩) ql := by unfold Ws; rw [hql]; exact hX
          have hY2 : Ws wr wr.heap.size (some ⟨g, 0, none⟩) ul := by unfold Ws; rw [hul]; exact hY
          have ht1 := trim_calls _ lq wr.heap.size _ wr (by omega) (by omega) hI.out.2.1 hX2
          have ht2 := trim_calls _ cu wr.heap.size _ wr (by omega) (by omega) hI.out.1 hY2
          rw [hql, hqe] at ht1
          rw [hul, hue] at ht2
          have HT1 := Lib.hid ht1
          have HT2 := Lib.hid ht2
          clear ht1 ht2 hX hX2 hY hY2 hXe hYe hqe hue
          go_wp2_with fail
          refine HT1.out.mono ?_
          rintro e w8 ⟨rfl, hw1, hc1, hw8⟩
          obtain rfl := hw8.symm
          have HW1 := Lib.hid hw1
          clear hw1
          go_wp2_with fail
          refine HT2.out.mono ?_
          rintro e w8 ⟨rfl, hw2, hc22, hw8⟩
          obtain rfl := hw8.symm
          have hrl : (words (n % d * 2 ^ s)).length ≤ LN := by
            rw [HLN.out]
            exact words_len_le (Nat.mul_le_mul_right _ (Nat.mod_le _ _))
          have hsr := nshr_calls (some ⟨g, 0, none⟩) cu (n % d * 2 ^ s) s wr hc22 hcmy (by omega) (by omega) hw2
          rw [Nat.mul_div_cancel _ (Nat.two_pow_pos s)] at hsr
          have HSR := Lib.hid hsr
          clear hsr hw2
          go_wp2_with fail
          refine HSR.out.mono ?_
          rintro e w9 ⟨Z, cz, rfl, hcz, hcmz, hWZ, hb9⟩
          have hres : NDone2 w (n / d) (n % d) (.returned (.tuple #[.slice (some ⟨w6.heap.size, 0, none⟩) (words (n / d)).length lq, .slice Z (words (n % d)).length cz])) w9 :=
            ⟨_, _, Z, cz, rfl, hc1, hcmx, hcz, hcmz, (HW1.out.below hb9 (Nat.le_refl _)).more hb9.size, hWZ, (hbw4.trans (hb.mono hbw4.size)).trans (hb9.mono (Nat.le_trans hbw4.size hb.size))⟩
          have HRs := Lib.hid hres
          clear hres hWZ
          go_wp2
          go_ret2
          exact HRs.out
end Go.Proofs.YtjbdadhggejoiaaGreatDoor
