/- 'dyad': far, level.
   'dyad': level.
   'dyad': Add, Sub.
   'dyad': Sub.
   'dyad': Cmp.
   floats: small functions of math; how they stand to each other.
   'dyad': Of: a float's value. -/
import Derived.Test.YtjbdadhggejoiaaGreatDoorM18
import Derived.Deep.DeepCutAuto
import Derived.Deep.CutBlock

namespace Go.Proofs.YtjbdadhggejoiaaGreatDoor
open Go.RowKit
set_option maxRecDepth 100000

def topD (a : Dy) : Int := if a.m = 0 then 0 else (Go.bitLen a.m : Int) + a.e
theorem topD_bound {a : Dy} (ho : a.ok) : -65536 ≤ topD a ∧ topD a ≤ 131072 := by
  unfold topD
  split
  · omega
  · rename_i hm
    have hbl : Go.bitLen a.m ≤ 65536 := by
      have h1 := val_lt (words_isW a.m)
      rw [val_words] at h1
      have h2 := (bitLen_spec a.m).2 hm
      have h3 : 2 ^ (Go.bitLen a.m - 1) < 2 ^ (32 * (words a.m).length) := by rw [Nat.pow_mul]; exact Nat.lt_of_le_of_lt h2 h1
      have h4 := (Nat.pow_lt_pow_iff_right (by decide)).1 h3
      have := ho.len
      omega
    have := bl_pos hm
    rcases ho with ⟨h, _⟩ | ⟨_, _, h1, h2⟩
    · exact absurd h hm
    · omega
theorem e_bound {a : Dy} (ho : a.ok) : -65536 ≤ a.e ∧ a.e ≤ 65536 := by
  rcases ho with ⟨_, h, _⟩ | ⟨_, _, h1, h2⟩
  · omega
  · exact ⟨h1, h2⟩

set_option maxHeartbeats 4000000 in
theorem dfar_calls (v v2 : Value) (a b : Dy) (w : World) (hv : DR w v a) (ho : a.ok) (hv2 : DR w v2 b) (ho2 : b.ok) (hf : a.m = 0 ∨ b.m = 0 ∨ max (topD a) (topD b) - min a.e b.e ≤ 65538) :
    Calls Tryz.prog 85 #[v, v2] w fun en w' => en = .returned (.bool false) ∧ w.grownBy w' none := by
  have hT1 := fun W (hg : w.grownBy W none) => dtop_calls v a.neg a.m a.e W (NR.grown0 hv hg) ho
  have hT2 := fun W (hg : w.grownBy W none) => dtop_calls v2 b.neg b.m b.e W (NR.grown0 hv2 hg) ho2
  obtain ⟨A, c, rfl, hc, hcm, hW⟩ := hv
  obtain ⟨A2, c2, rfl, hc2, hcm2, hW2⟩ := hv2
  have hz := lenZ a.m
  have hz2 := lenZ b.m
  have hb1 := topD_bound ho
  have hb2 := topD_bound ho2
  have he1 := e_bound ho
  have he2 := e_bound ho2
  change ∀ W, _ → Calls _ _ _ _ (fun e w' => e = .returned (.int .i64 (topD a)) ∧ _) at hT1
  change ∀ W, _ → Calls _ _ _ _ (fun e w' => e = .returned (.int .i64 (topD b)) ∧ _) at hT2
  obtain ⟨t1, ht1⟩ : ∃ t, t = topD a := ⟨_, rfl⟩
  obtain ⟨t2, ht2⟩ : ∃ t, t = topD b := ⟨_, rfl⟩
  unfold NV at hT1 hT2 ⊢
  obtain ⟨L, hL⟩ : ∃ L, L = (words a.m).length := ⟨_, rfl⟩
  obtain ⟨L2, hL2⟩ : ∃ L, L = (words b.m).length := ⟨_, rfl⟩
  simp only [← hL, ← ht1] at hT1 hb1 hz
  simp only [← hL2, ← ht2] at hT2 hb2 hz2
  rw [← ht1, ← ht2] at hf
  rw [← hL, ← hL2]
  have HT1 := Lib.hid hT1
  have HT2 := Lib.hid hT2
  clear hT1 hT2 hL hL2 ht1 ht2 hW hW2 hc hc2
  by_cases hm1 : a.m = 0
  · rw [decide_eq_true hm1] at hz
    clear hm1 hf
    go_enter Tryz.func85, Tryz.ntmps85
    go_wp2
    go_ret
    exact ⟨rfl, grown_trans (grown_alloc _ _ _) (grown_alloc _ _ _)⟩
  · rw [decide_eq_false hm1] at hz
    by_cases hm2 : b.m = 0
    · rw [decide_eq_true hm2] at hz2
      clear hm1 hm2 hf
      go_enter Tryz.func85, Tryz.ntmps85
      go_wp2
      go_ret
      exact ⟨rfl, grown_trans (grown_alloc _ _ _) (grown_alloc _ _ _)⟩
    · rw [decide_eq_false hm2] at hz2
      have hf2 : max t1 t2 - min a.e b.e ≤ 65538 := by
        rcases hf with h | h | h
        · exact absurd h hm1
        · exact absurd h hm2
        · exact h
      have hf3 : ¬ (65538 < max t1 t2 - min a.e b.e) := by omega
      have hwr : IntKind.i64.wrap (max t1 t2 - min a.e b.e) = max t1 t2 - min a.e b.e := wrap_in (by omega) (by omega)
      have hdf : decide (65538 < max t1 t2 - min a.e b.e) = false := by rw [decide_eq_false_iff_not]; exact hf3
      clear hf hm1 hm2 hf2 hf3
      have K6 : Hid (∀ w' : World, (((w.alloc (.cells #[.bool a.neg, .slice A L c, .int .i64 a.e] 74)).alloc (.cells #[.bool b.neg, .slice A2 L2 c2, .int .i64 b.e] 74))).grownBy w' none → w'.cell? ⟨w.heap.size, 0, none⟩ = some (.bool a.neg) ∧ w'.cell? ⟨w.heap.size, 1, none⟩ = some (.slice A L c) ∧ w'.cell? ⟨w.heap.size, 2, none⟩ = some (.int .i64 a.e) ∧ w'.cell? ⟨w.heap.size + 1, 0, none⟩ = some (.bool b.neg) ∧ w'.cell? ⟨w.heap.size + 1, 1, none⟩ = some (.slice A2 L2 c2) ∧ w'.cell? ⟨w.heap.size + 1, 2, none⟩ = some (.int .i64 b.e) ∧ w.grownBy w' none) := fun w' hg => by
        obtain ⟨r0, r1, hw1, _⟩ := box2 hg
        obtain ⟨x0, x1, x2⟩ := row3 r0
        obtain ⟨x3, x4, x5⟩ := row3 r1
        exact ⟨x0, x1, x2, x3, x4, x5, hw1⟩
      have G0 : Hid (∀ w0 : World, w0.grownBy w0.drew none) := fun w0 => ⟨rfl, rfl, rfl, Nat.le_refl _, fun _ _ _ => rfl⟩
      go_enter Tryz.func85, Tryz.ntmps85
      go_wp2_with fail
      go_region_held3 (fun w' : World => w'.cell? ⟨w.heap.size, 0, none⟩ = some (.bool a.neg) ∧ w'.cell? ⟨w.heap.size, 1, none⟩ = some (.slice A L c) ∧ w'.cell? ⟨w.heap.size, 2, none⟩ = some (.int .i64 a.e) ∧ w'.cell? ⟨w.heap.size + 1, 0, none⟩ = some (.bool b.neg) ∧ w'.cell? ⟨w.heap.size + 1, 1, none⟩ = some (.slice A2 L2 c2) ∧ w'.cell? ⟨w.heap.size + 1, 2, none⟩ = some (.int .i64 b.e) ∧ w.grownBy w' none)
        (first
          | exact K6.out _ (G0.out _)
          | (go_split_ands; exact ⟨cell_ext hgl (by assumption), cell_ext hgl (by assumption), cell_ext hgl (by assumption), cell_ext hgl (by assumption), cell_ext hgl (by assumption), cell_ext hgl (by assumption), grown_trans (by assumption) hgl⟩))
        (first
          | (go_at_call_of 121 (Value.agg #[.bool a.neg, .slice A L c, .int .i64 a.e]); go_split_ands; refine (HT1.out _ (by assumption)).mono ?_; rintro e1 w2 ⟨rfl, hgl⟩)
          | (go_at_call_of 121 (Value.agg #[.bool b.neg, .slice A2 L2 c2, .int .i64 b.e]); go_split_ands; refine (HT2.out _ (by assumption)).mono ?_; rintro e1 w3 ⟨rfl, hgl⟩; have hlast := grown_trans (show w.grownBy _ none by assumption) hgl))
      all_goals
        go_wp2
        go_ret
        exact ⟨rfl, hlast⟩
end Go.Proofs.YtjbdadhggejoiaaGreatDoor

namespace Go.Proofs.YtjbdadhggejoiaaGreatDoor
open Go.RowKit
set_option maxRecDepth 100000

/-- the power of two of both -/
def lvE (a b : Dy) : Int := if b.m = 0 then a.e else if a.m = 0 then b.e else min a.e b.e
def lvX (a b : Dy) : Int := a.z * 2 ^ (a.e - lvE a b).toNat
def lvY (a b : Dy) : Int := b.z * 2 ^ (b.e - lvE a b).toNat
set_option maxHeartbeats 4000000 in
theorem dlevel_calls (v v2 : Value) (a b : Dy) (w : World) (hv : DR w v a) (ho : a.ok) (hv2 : DR w v2 b) (ho2 : b.ok) :
    Calls Tryz.prog 86 #[v, v2] w fun en w' => ∃ bx by', en = .returned (.tuple #[.pointer (some ⟨bx, 0, none⟩), .pointer (some ⟨by', 0, none⟩), .int .i64 (lvE a b)]) ∧ bx ≠ by' ∧ w.heap.size ≤ bx ∧ w.heap.size ≤ by' ∧ IR w' bx (lvX a b) ∧ IR w' by' (lvY a b) ∧ Below w.heap.size w w' := by
  have hla := ho.len
  have hlb := ho2.len
  have hVa := fun W (hg : w.grownBy W none) => value_calls v a.neg a.m a.e W (NR.grown0 hv hg) (Nat.le_trans hla (by decide))
  have hVb := fun W (hg : w.grownBy W none) => value_calls v2 b.neg b.m b.e W (NR.grown0 hv2 hg) (Nat.le_trans hlb (by decide))
  obtain ⟨A, c, rfl, hc, hcm, hW⟩ := hv
  obtain ⟨A2, c2, rfl, hc2, hcm2, hW2⟩ := hv2
  have he1 := e_bound ho
  have he2 := e_bound ho2
  unfold NV at hVa hVb ⊢
  obtain ⟨L, hL⟩ : ∃ L, L = (words a.m).length := ⟨_, rfl⟩
  obtain ⟨L2, hL2⟩ : ∃ L, L = (words b.m).length := ⟨_, rfl⟩
  simp only [← hL] at hVa
  simp only [← hL2] at hVb
  rw [← hL, ← hL2]
  have HVa := Lib.hid hVa
  have HVb := Lib.hid hVb
  clear hVa hVb hL hL2 hW hW2 hc hc2
  have K6 : Hid (∀ w' : World, (((w.alloc (.cells #[.bool a.neg, .slice A L c, .int .i64 a.e] 74)).alloc (.cells #[.bool b.neg, .slice A2 L2 c2, .int .i64 b.e] 74))).grownBy w' none → w'.cell? ⟨w.heap.size, 0, none⟩ = some (.bool a.neg) ∧ w'.cell? ⟨w.heap.size, 1, none⟩ = some (.slice A L c) ∧ w'.cell? ⟨w.heap.size, 2, none⟩ = some (.int .i64 a.e) ∧ w'.cell? ⟨w.heap.size + 1, 0, none⟩ = some (.bool b.neg) ∧ w'.cell? ⟨w.heap.size + 1, 1, none⟩ = some (.slice A2 L2 c2) ∧ w'.cell? ⟨w.heap.size + 1, 2, none⟩ = some (.int .i64 b.e) ∧ w.grownBy w' none ∧ w.heap.size + 2 ≤ w'.heap.size) := fun w' hg => by
    obtain ⟨r0, r1, hw1, hsz⟩ := box2 hg
    obtain ⟨x0, x1, x2⟩ := row3 r0
    obtain ⟨x3, x4, x5⟩ := row3 r1
    exact ⟨x0, x1, x2, x3, x4, x5, hw1, hsz⟩
  have G0 : Hid (∀ w0 : World, w0.grownBy w0.drew none) := fun w0 => ⟨rfl, rfl, rfl, Nat.le_refl _, fun _ _ _ => rfl⟩
  have hza : a.z = 0 ↔ a.m = 0 := by unfold Dy.z sg; split <;> omega
  have hzb : b.z = 0 ↔ b.m = 0 := by unfold Dy.z sg; split <;> omega
  have haa : a.z.natAbs = a.m := by unfold Dy.z sg; split <;> simp
  have hbb' : b.z.natAbs = b.m := by unfold Dy.z sg; split <;> simp
  have hsa : ∀ W X, IR W X a.z → Calls Tryz.prog 109 #[.pointer (some ⟨X, 0, none⟩)] W fun e w' => e = .returned (.int .i64 (sgnI a.z)) ∧ w' = W := fun W X h => isign_calls X _ W h
  have hsb : ∀ W X, IR W X b.z → Calls Tryz.prog 109 #[.pointer (some ⟨X, 0, none⟩)] W fun e w' => e = .returned (.int .i64 (sgnI b.z)) ∧ w' = W := fun W X h => isign_calls X _ W h
  obtain ⟨s1, hs1⟩ : ∃ s, s = sgnI a.z := ⟨_, rfl⟩
  obtain ⟨s2, hs2⟩ : ∃ s, s = sgnI b.z := ⟨_, rfl⟩
  rw [← hs1] at hsa
  rw [← hs2] at hsb
  have hz1 : (s1 == 0) = decide (a.m = 0) := by
    rw [hs1]; unfold sgnI
    by_cases h : a.z = 0
    · rw [if_pos h, decide_eq_true (hza.1 h)]; rfl
    · rw [if_neg h, decide_eq_false (fun e => h (hza.2 e))]; split <;> rfl
  have hz2 : (s2 == 0) = decide (b.m = 0) := by
    rw [hs2]; unfold sgnI
    by_cases h : b.z = 0
    · rw [if_pos h, decide_eq_true (hzb.1 h)]; rfl
    · rw [if_neg h, decide_eq_false (fun e => h (hzb.2 e))]; split <;> rfl
  have hz3 : (s1 != 0) = !decide (a.m = 0) := by rw [bne, hz1]
  have hz4 : (s2 != 0) = !decide (b.m = 0) := by rw [bne, hz2]
  have HSa := Lib.hid hsa
  have HSb := Lib.hid hsb
  have HZA := Lib.hid (⟨hza, hzb⟩ : (a.z = 0 ↔ a.m = 0) ∧ (b.z = 0 ↔ b.m = 0))
  have HAA := Lib.hid (⟨haa, hbb'⟩ : a.z.natAbs = a.m ∧ b.z.natAbs = b.m)
  clear hsa hsb hs1 hs2 hza hzb haa hbb'
  go_enter Tryz.func86, Tryz.ntmps86
  go_wp2_with fail
  go_upto_region 1 with fail
  go_cut [7, 8, 9] (fun v7 v8 v9 wx => ∃ ba bb : Nat, v7 = .pointer (some ⟨ba, 0, none⟩) ∧ v8 = .pointer (some ⟨bb, 0, none⟩) ∧ v9 = .int .i64 (min a.e b.e) ∧ ba ≠ bb ∧ w.heap.size + 2 ≤ ba ∧ w.heap.size + 2 ≤ bb ∧ Hid (IR wx ba a.z) ∧ Hid (IR wx bb b.z) ∧ Hid (wx.cell? ⟨w.heap.size, 2, none⟩ = some (.int .i64 a.e) ∧ wx.cell? ⟨w.heap.size + 1, 2, none⟩ = some (.int .i64 b.e)) ∧ Hid (w.grownBy wx none) ∧ w.heap.size + 2 ≤ wx.heap.size)
  case first =>
    go_region_held3 (fun w' : World => w'.cell? ⟨w.heap.size, 0, none⟩ = some (.bool a.neg) ∧ w'.cell? ⟨w.heap.size, 1, none⟩ = some (.slice A L c) ∧ w'.cell? ⟨w.heap.size, 2, none⟩ = some (.int .i64 a.e) ∧ w'.cell? ⟨w.heap.size + 1, 0, none⟩ = some (.bool b.neg) ∧ w'.cell? ⟨w.heap.size + 1, 1, none⟩ = some (.slice A2 L2 c2) ∧ w'.cell? ⟨w.heap.size + 1, 2, none⟩ = some (.int .i64 b.e) ∧ w.grownBy w' none ∧ w.heap.size + 2 ≤ w'.heap.size)
      (first
        | exact K6.out _ (G0.out _)
        | (go_split_ands; exact ⟨cell_ext hgl (by assumption), cell_ext hgl (by assumption), cell_ext hgl (by assumption), cell_ext hgl (by assumption), cell_ext hgl (by assumption), cell_ext hgl (by assumption), grown_trans (by assumption) hgl, Nat.le_trans (by assumption) hgl.size⟩))
      (first
        | (go_at_call_of 79 (Value.agg #[.bool a.neg, .slice A L c, .int .i64 a.e]); go_split_ands; refine (HVa.out _ (by assumption)).mono ?_; rintro e1 w2 ⟨ba, rfl, hba, hIa, hga⟩; have hgl := grown_of_below hga none; have HIa := Lib.hid hIa; have hba2 := Nat.le_trans (show w.heap.size + 2 ≤ _ by assumption) hba; clear hIa)
        | (go_at_call_of 79 (Value.agg #[.bool b.neg, .slice A2 L2 c2, .int .i64 b.e]); go_split_ands; refine (HVb.out _ (by assumption)).mono ?_; rintro e1 w3 ⟨bb, rfl, hbb, hIb, hgb⟩; have hgl := grown_of_below hgb none; have HIb := Lib.hid hIb; have HIa3 := Lib.hid (HIa.out.grown0 hgl); have hlast := grown_trans (show w.grownBy _ none by assumption) hgl;
           have hc1 := cell_ext (a := ⟨w.heap.size, 2, none⟩) hgl (by assumption); have hc2 := cell_ext (a := ⟨w.heap.size + 1, 2, none⟩) hgl (by assumption); clear hIb))
    all_goals
      have hne : ba ≠ bb := by have := HIa.out.lt; omega
      have hbb2 : w.heap.size + 2 ≤ bb := by have := HIa.out.lt; omega
      have hsl : w.heap.size + 2 ≤ w3.heap.size := by have := HIa3.out.lt; omega
      go_wp2
      go_meet
      exact ⟨ba, bb, rfl, rfl, rfl, hne, hba2, hbb2, HIa3, HIb, ⟨hc1, hc2⟩, hlast, hsl⟩
  case rest =>
    obtain ⟨ba, bb, rfl, rfl, rfl, hne, hba, hbb, hIa, hIb, hcc, hg, hsl⟩ := hcut
    obtain ⟨c1, c2'⟩ := hcc.out
    have hl1 : (words a.z.natAbs).length ≤ 1073741824 := by rw [HAA.out.1]; omega
    have hl2 : (words b.z.natAbs).length ≤ 1073741824 := by rw [HAA.out.2]; omega
    by_cases hm1 : a.m = 0
    · rw [decide_eq_true hm1] at hz1 hz3
      by_cases hm2 : b.m = 0
      · rw [decide_eq_true hm2] at hz2 hz4
        change _ = false at hz3 hz4
        have HE : Hid (lvE a b = a.e) := by show lvE a b = _; unfold lvE; rw [if_pos hm2]
        have HX : Hid (lvX a b = a.z ∧ lvY a b = b.z) := by
          show _ ∧ _
          unfold lvX lvY
          rw [HZA.out.1.2 hm1, HZA.out.2.2 hm2]
          simp
        clear hm1 hm2
        go_wp2_with fail
        refine (HSa.out _ _ hIa.out).mono ?_
        rintro e1 w4 ⟨rfl, hw4⟩
        obtain rfl := hw4.symm
        go_wp2_with fail
        refine (HSb.out _ _ hIb.out).mono ?_
        rintro e1 w4 ⟨rfl, hw4⟩
        obtain rfl := hw4.symm
        go_wp2_with fail
        refine (HSa.out _ _ hIa.out).mono ?_
        rintro e1 w4 ⟨rfl, hw4⟩
        obtain rfl := hw4.symm
        go_wp2_with fail
        refine (HSb.out _ _ hIb.out).mono ?_
        rintro e1 w4 ⟨rfl, hw4⟩
        obtain rfl := hw4.symm
        go_wp2
        go_ret3
        refine ⟨ba, bb, ?_, hne, by omega, by omega, ?_, ?_, below_of_grown0 hg.out⟩
        · rw [HE.out]; rfl
        · rw [HX.out.1]; exact hIa.out
        · rw [HX.out.2]; exact hIb.out
      · rw [decide_eq_false hm2] at hz2 hz4
        change _ = false at hz3
        change _ = true at hz4
        have HE : Hid (lvE a b = b.e) := by show lvE a b = _; unfold lvE; rw [if_neg hm2, if_pos hm1]
        have HX : Hid (lvX a b = a.z ∧ lvY a b = b.z * 2 ^ 0) := by
          show _ ∧ _
          unfold lvX lvY
          rw [HE.out, HZA.out.1.2 hm1]
          simp
        clear hm1 hm2
        go_wp2_with fail
        refine (HSa.out _ _ hIa.out).mono ?_
        rintro e1 w4 ⟨rfl, hw4⟩
        obtain rfl := hw4.symm
        go_wp2_with fail
        refine (HSb.out _ _ hIb.out).mono ?_
        rintro e1 w4 ⟨rfl, hw4⟩
        obtain rfl := hw4.symm
        go_wp2_with fail
        refine (HSa.out _ _ hIa.out).mono ?_
        rintro e1 w4 ⟨rfl, hw4⟩
        obtain rfl := hw4.symm
        go_wp2_with fail
        refine (HSb.out _ _ hIb.out).mono ?_
        rintro e1 w4 ⟨rfl, hw4⟩
        obtain rfl := hw4.symm
        go_wp2_with fail
        refine (ilsh_calls bb bb 0 b.z _ hIb.out.two hIb.out hl2 (by omega)).mono ?_
        rintro e1 w6 ⟨rfl, hI6, hg6⟩
        have HI6 := Lib.hid hI6
        have HIx := Lib.hid (hIa.out.grown hg6 hne hIb.out.two)
        have HB6 : Hid (Below w.heap.size w w6) := (below_of_grown0 hg.out).trans (below_of_grown hg6 (by omega) hIb.out.lt)
        clear hI6
        go_wp2
        go_ret3
        refine ⟨ba, bb, ?_, hne, by omega, by omega, ?_, ?_, HB6.out⟩
        · rw [HE.out]; rfl
        · rw [HX.out.1]; exact HIx.out
        · rw [HX.out.2]; exact HI6.out
    · by_cases hm2 : b.m = 0
      · rw [decide_eq_false hm1] at hz1 hz3
        rw [decide_eq_true hm2] at hz2 hz4
        change _ = true at hz3
        change _ = false at hz4
        have HE : Hid (lvE a b = a.e) := by show lvE a b = _; unfold lvE; rw [if_pos hm2]
        have HX : Hid (lvX a b = a.z * 2 ^ 0 ∧ lvY a b = b.z) := by
          show _ ∧ _
          unfold lvX lvY
          rw [HE.out, HZA.out.2.2 hm2]
          simp
        clear hm1 hm2
        go_wp2_with fail
        refine (HSa.out _ _ hIa.out).mono ?_
        rintro e1 w4 ⟨rfl, hw4⟩
        obtain rfl := hw4.symm
        go_wp2_with fail
        refine (HSb.out _ _ hIb.out).mono ?_
        rintro e1 w4 ⟨rfl, hw4⟩
        obtain rfl := hw4.symm
        go_wp2_with fail
        refine (HSa.out _ _ hIa.out).mono ?_
        rintro e1 w4 ⟨rfl, hw4⟩
        obtain rfl := hw4.symm
        go_wp2_with fail
        refine (ilsh_calls ba ba 0 a.z _ hIa.out.two hIa.out hl1 (by omega)).mono ?_
        rintro e1 w5 ⟨rfl, hI5, hg5⟩
        have HI5 := Lib.hid hI5
        have hIb5 := Lib.hid (hIb.out.grown hg5 hne.symm hIa.out.two)
        have c15 := cell_grown hg5 (by omega) (by omega) c1
        have c25 := cell_grown hg5 (by omega) (by omega) c2'
        have HB5 : Hid (Below w.heap.size w w5) := (below_of_grown0 hg.out).trans (below_of_grown hg5 (by omega) hIa.out.lt)
        clear hI5 c1 c2'
        go_wp2_with fail
        refine (HSb.out _ _ hIb5.out).mono ?_
        rintro e1 w4 ⟨rfl, hw4⟩
        obtain rfl := hw4.symm
        go_wp2
        go_ret3
        refine ⟨ba, bb, ?_, hne, by omega, by omega, ?_, ?_, HB5.out⟩
        · rw [HE.out]; rfl
        · rw [HX.out.1]; exact HI5.out
        · rw [HX.out.2]; exact hIb5.out
      · rw [decide_eq_false hm1] at hz1 hz3
        rw [decide_eq_false hm2] at hz2 hz4
        change _ = true at hz3 hz4
        have HE : Hid (lvE a b = min a.e b.e) := by show lvE a b = _; unfold lvE; rw [if_neg hm2, if_neg hm1]
        obtain ⟨E, hE⟩ : ∃ E, E = min a.e b.e := ⟨_, rfl⟩
        rw [← hE] at HE ⊢
        obtain ⟨k1, hk1⟩ : ∃ k1 : Nat, a.e - E = (k1 : Int) := ⟨(a.e - E).toNat, by omega⟩
        obtain ⟨k2, hk2⟩ : ∃ k2 : Nat, b.e - E = (k2 : Int) := ⟨(b.e - E).toNat, by omega⟩
        have HK : Hid ((a.e - E).toNat = k1 ∧ (b.e - E).toNat = k2) := (show _ ∧ _ from ⟨by omega, by omega⟩)
        have hk1b : k1 ≤ 131072 := by omega
        have hk2b : k2 ≤ 131072 := by omega
        clear hE hm1 hm2
        go_wp2_with fail
        refine (HSa.out _ _ hIa.out).mono ?_
        rintro e1 w4 ⟨rfl, hw4⟩
        obtain rfl := hw4.symm
        go_wp2_with fail
        refine (HSb.out _ _ hIb.out).mono ?_
        rintro e1 w4 ⟨rfl, hw4⟩
        obtain rfl := hw4.symm
        go_wp2_with fail
        refine (HSa.out _ _ hIa.out).mono ?_
        rintro e1 w4 ⟨rfl, hw4⟩
        obtain rfl := hw4.symm
        go_wp2_with fail
        refine (ilsh_calls ba ba k1 a.z _ hIa.out.two hIa.out hl1 (by omega)).mono ?_
        rintro e1 w5 ⟨rfl, hI5, hg5⟩
        have HI5 := Lib.hid hI5
        have hIb5 := Lib.hid (hIb.out.grown hg5 hne.symm hIa.out.two)
        have c15 := cell_grown hg5 (by omega) (by omega) c1
        have c25 := cell_grown hg5 (by omega) (by omega) c2'
        have HB5 : Hid (Below w.heap.size w w5) := (below_of_grown0 hg.out).trans (below_of_grown hg5 (by omega) hIa.out.lt)
        clear hI5 c1 c2'
        go_wp2_with fail
        refine (HSb.out _ _ hIb5.out).mono ?_
        rintro e1 w4 ⟨rfl, hw4⟩
        obtain rfl := hw4.symm
        go_wp2_with fail
        refine (ilsh_calls bb bb k2 b.z _ hIb5.out.two hIb5.out hl2 (by omega)).mono ?_
        rintro e1 w6 ⟨rfl, hI6, hg6⟩
        have HI6 := Lib.hid hI6
        have HIx := Lib.hid (HI5.out.grown hg6 hne hIb5.out.two)
        have HB6 : Hid (Below w.heap.size w w6) := HB5.out.trans (below_of_grown hg6 (by omega) hIb5.out.lt)
        clear hI6
        go_wp2
        go_ret3
        refine ⟨ba, bb, ?_, hne, by omega, by omega, ?_, ?_, HB6.out⟩
        · rw [HE.out]; rfl
        · have := HIx.out; unfold lvX; rw [HE.out, HK.out.1]; exact this
        · have := HI6.out; unfold lvY; rw [HE.out, HK.out.2]; exact this
end Go.Proofs.YtjbdadhggejoiaaGreatDoor

namespace Go.Proofs.YtjbdadhggejoiaaGreatDoor
open Go.RowKit
set_option maxRecDepth 100000

def dadd (a b : Dy) : Dy := dnorm (lvX a b + lvY a b) (lvE a b)
def notFar (a b : Dy) : Prop := a.m = 0 ∨ b.m = 0 ∨ max (topD a) (topD b) - min a.e b.e ≤ 65538
theorem words_len_mul {n k : Nat} : (words (n * 2 ^ k)).length ≤ (words n).length + (k / 32 + 1) := by
  refine words_len_lt ?_
  have h1 := val_lt (words_isW n)
  rw [val_words] at h1
  have h2 : (2 : Nat) ^ k ≤ 4294967296 ^ (k / 32 + 1) := by
    rw [show (4294967296 : Nat) = 2 ^ 32 by decide, ← Nat.pow_mul]
    exact Nat.pow_le_pow_right (by decide) (by omega)
  rw [Nat.pow_add]
  exact Nat.mul_lt_mul_of_lt_of_le h1 h2 (Nat.pow_pos (by decide))
theorem words_len_add {n m k : Nat} (hn : (words n).length ≤ k) (hm : (words m).length ≤ k) : (words (n + m)).length ≤ k + 1 := by
  refine words_len_lt ?_
  have h1 := val_lt_len (words_isW n) hn
  have h2 := val_lt_len (words_isW m) hm
  rw [val_words] at h1 h2
  rw [Nat.pow_succ]
  omega
theorem abs_mul2 (z : Int) (k : Nat) : (z * 2 ^ k).natAbs = z.natAbs * 2 ^ k := by rw [Int.natAbs_mul, Int.natAbs_pow]; rfl
theorem dz_abs (a : Dy) : a.z.natAbs = a.m := by unfold Dy.z sg; split <;> simp
theorem lv_len {a b : Dy} (ho : a.ok) (ho2 : b.ok) : (words (lvX a b).natAbs).length ≤ 8192 ∧ (words (lvY a b).natAbs).length ≤ 8192 := by
  have he1 := e_bound ho
  have he2 := e_bound ho2
  have hl1 := ho.len
  have hl2 := ho2.len
  have hE : -65536 ≤ lvE a b := by unfold lvE; split; omega; split <;> omega
  unfold lvX lvY
  rw [abs_mul2, abs_mul2, dz_abs, dz_abs]
  have h1 := words_len_mul (n := a.m) (k := (a.e - lvE a b).toNat)
  have h2 := words_len_mul (n := b.m) (k := (b.e - lvE a b).toNat)
  omega

theorem Tab.ext {w w' : World} (h : Tab w) (hg : w.grownBy w' none) : Tab w' := fun i v hv => cell_ext hg (h i v hv)

set_option maxHeartbeats 4000000 in
theorem dadd_calls (v v2 : Value) (a b : Dy) (w : World) (hv : DR w v a) (ho : a.ok) (hv2 : DR w v2 b) (ho2 : b.ok) (hf : notFar a b) (hr : (dadd a b).ok) (hT : Tab w) :
    Calls Tryz.prog 50 #[v, v2] w fun en w' => DDone w (dadd a b) en w' := by
  have hfar := fun W (hg : w.grownBy W none) => dfar_calls v v2 a b W (NR.grown0 hv hg) ho (NR.grown0 hv2 hg) ho2 hf
  have hlev := fun W (hg : w.grownBy W none) => dlevel_calls v v2 a b W (NR.grown0 hv hg) ho (NR.grown0 hv2 hg) ho2
  obtain ⟨A, c, rfl, hc, hcm, hW⟩ := hv
  obtain ⟨A2, c2, rfl, hc2, hcm2, hW2⟩ := hv2
  have hN1 : NR w (NV a.neg A (words a.m).length c a.e) a.neg a.m a.e := ⟨A, c, rfl, hc, hcm, hW⟩
  have hN2 : NR w (NV b.neg A2 (words b.m).length c2 b.e) b.neg b.m b.e := ⟨A2, c2, rfl, hc2, hcm2, hW2⟩
  obtain ⟨hlx, hly⟩ := lv_len ho ho2
  have hnum : ∀ W X, IR W X (lvX a b + lvY a b) → Tab W → Calls Tryz.prog 83 #[.pointer (some ⟨X, 0, none⟩), .int .i64 (lvE a b)] W fun e w' => DDone W (dadd a b) e w' := fun W X h1 h2 => by
    refine dnum_calls X _ _ W h1 hr ?_ h2
    have h3 : (lvX a b + lvY a b).natAbs ≤ (lvX a b).natAbs + (lvY a b).natAbs := Int.natAbs_add_le _ _
    exact Nat.le_trans (words_len_le h3) (Nat.le_trans (words_len_add hlx hly) (by decide))
  obtain ⟨d, hd⟩ : ∃ d, d = dadd a b := ⟨_, rfl⟩
  obtain ⟨E, hE⟩ : ∃ E, E = lvE a b := ⟨_, rfl⟩
  rw [← hd] at hnum ⊢
  rw [← hE] at hnum
  simp only [← hE] at hlev
  obtain ⟨L, hL⟩ : ∃ L, L = (words a.m).length := ⟨_, rfl⟩
  obtain ⟨L2, hL2⟩ : ∃ L, L = (words b.m).length := ⟨_, rfl⟩
  have hval := fun o1 o2 o3 t => dvalids_calls (w.heap.size + 1 + 1 + 1) 2 _ (by decide) (valid_two (w := ((w.alloc o1).alloc o2).alloc o3) (t := t) ho ho2 (((hN1.grown0 (grown_alloc _ _ _)).grown0 (grown_alloc _ _ _)).grown0 (grown_alloc _ _ _)) (((hN2.grown0 (grown_alloc _ _ _)).grown0 (grown_alloc _ _ _)).grown0 (grown_alloc _ _ _)) (by simp))
  unfold NV at hfar hlev ⊢
  simp only [← hL, ← hL2] at hval hfar hlev
  rw [← hL, ← hL2]
  have HV := Lib.hid hval
  have HF := Lib.hid hfar
  have HLv := Lib.hid hlev
  have HNum := Lib.hid hnum
  have HT := Lib.hid hT
  clear hval hL hL2 hW hW2 hc hc2 hfar hlev hnum hT hd hE hN1 hN2 hr hf
  go_enter Tryz.func50, Tryz.ntmps50
  go_wp2_with fail
  refine (HV.out _ _ _ _).mono ?_
  rintro e1 w1 ⟨rfl, hg⟩
  obtain ⟨r0, r1, r2, hw1, hsz⟩ := box4 hg
  obtain ⟨x0, x1, x2⟩ := row3 r0
  obtain ⟨x3, x4, x5⟩ := row3 r1
  have R2 := Lib.hid r2
  have R0 := Lib.hid r0
  have R1 := Lib.hid r1
  have HW1 := Lib.hid hw1
  clear r0 r1 r2 hg hw1
  go_wp2_with fail
  refine (HF.out _ HW1.out).mono ?_
  rintro e1 w2 ⟨rfl, hg2⟩
  obtain ⟨y0, y1, y2⟩ := row3 (heap_grown R0.out hg2)
  obtain ⟨y3, y4, y5⟩ := row3 (heap_grown R1.out hg2)
  have HW2 := Lib.hid (grown_trans HW1.out hg2)
  have R22 := Lib.hid (heap_grown R2.out hg2)
  have hs2 := hg2.size
  clear hg2
  go_wp2_with fail
  refine (HLv.out _ HW2.out).mono ?_
  rintro e1 w3 ⟨bx, by', rfl, hne, hbx, hby, hIx, hIy, hb3⟩
  have HIx := Lib.hid hIx
  have HIy := Lib.hid hIy
  have HB3 := Lib.hid hb3
  clear hIx hIy hb3
  go_wp2_with fail
  refine (iadd_calls bx bx by' (lvX a b) (lvY a b) _ HIx.out.two HIx.out HIy.out (by omega) (by omega)).mono ?_
  rintro e1 w4 ⟨rfl, hI4, hg4⟩
  have HI4 := Lib.hid hI4
  have hxl := HIx.out.lt
  have HB4 : Hid (Below w2.heap.size w2 w4) := HB3.out.trans (below_of_grown hg4 hbx hxl)
  have HT4 : Hid (Tab w4) := (Tab.ext HT.out HW2.out).below HB4.out (by have := HW2.out.size; have := HT.out.pos; omega)
  clear hI4 hg4
  go_wp2_with fail
  refine (HNum.out _ _ HI4.out HT4.out).mono ?_
  rintro e1 w5 ⟨v5, rfl, ⟨A5, c5, rfl, hc5, hcm5, hW5⟩, hb5⟩
  unfold NV
  have HB5 : Hid (Below w2.heap.size w2 w5) := HB4.out.trans (hb5.mono HB4.out.size)
  have hT5 : Three w5 (w.heap.size + 1 + 1) := ⟨_, _, _, _, _, _, (HB5.out.block _ (by omega)).trans R22.out⟩
  obtain ⟨q1, q2, q3, q4, q5, z0, z1, z2, z3, z4, z5⟩ := hT5.open
  have HBw : Hid (Below w.heap.size w w5) := (below_of_grown0 HW2.out).trans (HB5.out.mono HW2.out.size)
  have HD5 : Hid (DDone w d (.returned (.tuple #[.agg #[.bool d.neg, .slice A5 (words d.m).length c5, .int .i64 d.e], .int .i64 0])) _) := NumDone.store hT5 hc5 hcm5 hW5 HBw.out (by omega : w.heap.size ≤ w.heap.size + 1 + 1)
  clear hW5 hb5
  go_wp2
  refine bodyPost_ret (v := .tuple #[.agg #[.bool d.neg, .slice A5 (words d.m).length c5, .int .i64 d.e], .int .i64 0]) ?_ rfl HD5.out
  simp [results, Tryz.results50, go_sem, *]
end Go.Proofs.YtjbdadhggejoiaaGreatDoor

namespace Go.Proofs.YtjbdadhggejoiaaGreatDoor
open Go.RowKit
set_option maxRecDepth 100000

def dsub (a b : Dy) : Dy := dadd a (dneg b)
theorem dneg_ok {a : Dy} (h : a.ok) : (dneg a).ok := by
  unfold dneg
  split
  · exact .inl ⟨rfl, rfl, rfl⟩
  · rename_i hm
    rcases h with ⟨h, _⟩ | h
    · exact absurd h hm
    · exact .inr h

set_option maxHeartbeats 4000000 in
theorem dsub_calls (v v2 : Value) (a b : Dy) (w : World) (hv : DR w v a) (ho : a.ok) (hv2 : DR w v2 b) (ho2 : b.ok) (hf : notFar a (dneg b)) (hr : (dsub a b).ok) (hT : Tab w) :
    Calls Tryz.prog 124 #[v, v2] w fun en w' => DDone w (dsub a b) en w' := by
  obtain ⟨A, c, rfl, hc, hcm, hW⟩ := hv
  obtain ⟨A2, c2, rfl, hc2, hcm2, hW2⟩ := hv2
  have hN1 : NR w (NV a.neg A (words a.m).length c a.e) a.neg a.m a.e := ⟨A, c, rfl, hc, hcm, hW⟩
  have hN2 : NR w (NV b.neg A2 (words b.m).length c2 b.e) b.neg b.m b.e := ⟨A2, c2, rfl, hc2, hcm2, hW2⟩
  have hneg : ∀ W, NR W (NV b.neg A2 (words b.m).length c2 b.e) b.neg b.m b.e → Calls Tryz.prog 151 #[NV b.neg A2 (words b.m).length c2 b.e] W fun e w' => VDone W (dneg b) e w' := fun W h => dneg_calls _ b W h ho2
  have hadd : ∀ W v', NR W (NV a.neg A (words a.m).length c a.e) a.neg a.m a.e → DR W v' (dneg b) → Tab W → Calls Tryz.prog 50 #[NV a.neg A (words a.m).length c a.e, v'] W fun e w' => DDone W (dsub a b) e w' := fun W v' h1 h2 h3 => dadd_calls _ v' a (dneg b) W h1 ho h2 (dneg_ok ho2) hf hr h3
  obtain ⟨d, hd⟩ : ∃ d, d = dsub a b := ⟨_, rfl⟩
  rw [← hd] at hadd ⊢
  obtain ⟨L, hL⟩ : ∃ L, L = (words a.m).length := ⟨_, rfl⟩
  obtain ⟨L2, hL2⟩ : ∃ L, L = (words b.m).length := ⟨_, rfl⟩
  have hval := fun o1 o2 o3 t => dvalids_calls (w.heap.size + 1 + 1 + 1) 2 _ (by decide) (valid_two (w := ((w.alloc o1).alloc o2).alloc o3) (t := t) ho ho2 (((hN1.grown0 (grown_alloc _ _ _)).grown0 (grown_alloc _ _ _)).grown0 (grown_alloc _ _ _)) (((hN2.grown0 (grown_alloc _ _ _)).grown0 (grown_alloc _ _ _)).grown0 (grown_alloc _ _ _)) (by simp))
  unfold NV at hneg hadd ⊢
  simp only [← hL, ← hL2] at hval hneg hadd
  rw [← hL, ← hL2]
  have HV := Lib.hid hval
  have HNg := Lib.hid hneg
  have HAdd := Lib.hid hadd
  have HT := Lib.hid hT
  have HN1 : Hid (NR w (.agg #[.bool a.neg, .slice A L c, .int .i64 a.e]) a.neg a.m a.e) := by rw [hL]; exact hN1
  have HN2 : Hid (NR w (.agg #[.bool b.neg, .slice A2 L2 c2, .int .i64 b.e]) b.neg b.m b.e) := by rw [hL2]; exact hN2
  clear hval hL hL2 hW hW2 hc hc2 hneg hadd hT hd hr hf hN1 hN2
  go_enter Tryz.func124, Tryz.ntmps124
  go_wp2_with fail
  refine (HV.out _ _ _ _).mono ?_
  rintro e1 w1 ⟨rfl, hg⟩
  obtain ⟨r0, r1, r2, hw1, hsz⟩ := box4 hg
  obtain ⟨x0, x1, x2⟩ := row3 r0
  obtain ⟨x3, x4, x5⟩ := row3 r1
  have T0 : Hid (Three w1 (w.heap.size + 1 + 1)) := ⟨_, _, _, _, _, _, r2⟩
  have HW1 := Lib.hid hw1
  have HM1 := Lib.hid (HN1.out.grown0 hw1)
  have HM2 := Lib.hid (HN2.out.grown0 hw1)
  have HT1 := Lib.hid (Tab.ext HT.out hw1)
  have hrlt : w.heap.size + 1 + 1 < w1.heap.size := by omega
  have hne1 : w.heap.size + 1 + 1 ≠ 1 := by omega
  have HR2 := Lib.hid T0.out.rec'
  clear r0 r1 r2 hg hw1
  have K6 : Hid (∀ w' : World, w1.grownBy w' (some (w.heap.size + 1 + 1)) → Three w' (w.heap.size + 1 + 1) → w'.cell? ⟨w.heap.size, 0, none⟩ = some (.bool a.neg) ∧ w'.cell? ⟨w.heap.size, 1, none⟩ = some (.slice A L c) ∧ w'.cell? ⟨w.heap.size, 2, none⟩ = some (.int .i64 a.e) ∧
      w'.cell? ⟨w.heap.size + 1, 0, none⟩ = some (.bool b.neg) ∧ w'.cell? ⟨w.heap.size + 1, 1, none⟩ = some (.slice A2 L2 c2) ∧ w'.cell? ⟨w.heap.size + 1, 2, none⟩ = some (.int .i64 b.e) ∧ w1.grownBy w' (some (w.heap.size + 1 + 1)) ∧ Three w' (w.heap.size + 1 + 1)) := fun w' h h3 =>
    ⟨cell_grown h (by omega) (by omega) x0, cell_grown h (by omega) (by omega) x1, cell_grown h (by omega) (by omega) x2, cell_grown h (by omega) (by omega) x3, cell_grown h (by omega) (by omega) x4, cell_grown h (by omega) (by omega) x5, h, h3⟩
  have G0 : Hid (w1.grownBy w1.drew (some (w.heap.size + 1 + 1))) := ⟨rfl, rfl, rfl, Nat.le_refl _, fun _ _ _ => rfl⟩
  go_wp2_with fail
  go_region_held3 (fun w' : World => w'.cell? ⟨w.heap.size, 0, none⟩ = some (.bool a.neg) ∧ w'.cell? ⟨w.heap.size, 1, none⟩ = some (.slice A L c) ∧ w'.cell? ⟨w.heap.size, 2, none⟩ = some (.int .i64 a.e) ∧
      w'.cell? ⟨w.heap.size + 1, 0, none⟩ = some (.bool b.neg) ∧ w'.cell? ⟨w.heap.size + 1, 1, none⟩ = some (.slice A2 L2 c2) ∧ w'.cell? ⟨w.heap.size + 1, 2, none⟩ = some (.int .i64 b.e) ∧ w1.grownBy w' (some (w.heap.size + 1 + 1)) ∧ Three w' (w.heap.size + 1 + 1))
    (first
      | exact K6.out _ G0.out T0.out
      | exact K6.out _ hG5 hT5
      | exact K6.out _ (grown_trans hG5 (hT5.set _ _ _ _ _).2) (hT5.set _ _ _ _ _).1
      | (go_split_ands; exact K6.out _ (grown_trans (by assumption) (grown_some hgl)) (Three.grown (by assumption) hgl (by simp))))
    (first
      | (go_at_call 151; go_split_ands; refine (HNg.out _ (HM2.out.grownR (by assumption) HR2.out)).mono ?_; rintro e1 w2 ⟨vn, rfl, hvn, hbn⟩; have hgl := grown_of_below hbn none; have HVN := Lib.hid hvn; clear hvn)
      | (go_at_call 50; go_split_ands; refine (HAdd.out _ _ (HM1.out.grownR (by assumption) HR2.out) HVN.out (HT1.out.grownR (by assumption) hne1)).mono ?_; rintro e1 w5 ⟨v5, rfl, ⟨A5, c5, rfl, hc5, hcm5, hW5⟩, hb5⟩; unfold NV; have hG5 := grown_trans (by assumption) (grown_of_below hb5 (some (w.heap.size + 1 + 1))); have hT5 := Three.grown (by assumption) (grown_of_below hb5 none) (by simp); obtain ⟨q1, q2, q3, q4, q5, y0, y1, y2, y3, y4, y5⟩ := hT5.open; have HW5 := Lib.hid hW5; clear hW5 hgl))
  all_goals
    have HB5 : Hid (Below w.heap.size w w5) := (below_of_grown0 HW1.out).trans (below_of_grown hG5 (by omega) hrlt)
    have HD5 : Hid (DDone w d (.returned (.tuple #[.agg #[.bool d.neg, .slice A5 (words d.m).length c5, .int .i64 d.e], .int .i64 0])) _) := NumDone.store hT5 hc5 hcm5 HW5.out HB5.out (by omega : w.heap.size ≤ w.heap.size + 1 + 1)
    go_wp2
    refine bodyPost_ret (v := .tuple #[.agg #[.bool d.neg, .slice A5 (words d.m).length c5, .int .i64 d.e], .int .i64 0]) ?_ rfl HD5.out
    simp [results, Tryz.results124, go_sem, *]
end Go.Proofs.YtjbdadhggejoiaaGreatDoor

namespace Go.Proofs.YtjbdadhggejoiaaGreatDoor
open Go.RowKit
set_option maxRecDepth 100000

def dcmp (a b : Dy) : Int :=
  if sgD a.neg a.m ≠ sgD b.neg b.m ∨ sgD a.neg a.m = 0 then (sgD a.neg a.m - sgD b.neg b.m) - (sgD a.neg a.m - sgD b.neg b.m).tdiv 2
  else if topD a ≠ topD b then (if decide (topD a < topD b) = a.neg then 1 else -1)
  else cmpZ (lvX a b) (lvY a b)
theorem box3 {w w1 : World} {o1 o2 o3 : Obj} (hg : (((w.alloc o1).alloc o2).alloc o3).grownBy w1 none) :
    w1.heap[w.heap.size]? = some o1 ∧ w1.heap[w.heap.size + 1]? = some o2 ∧ w1.heap[w.heap.size + 1 + 1]? = some o3 ∧ w.grownBy w1 none ∧ w.heap.size + 3 ≤ w1.heap.size := by
  have hs := hg.size
  simp only [World.size_alloc] at hs
  exact ⟨heap_grown (heap_old (heap_old (heap_at rfl))) hg, heap_grown (heap_old (heap_at (by simp))) hg, heap_grown (heap_at (by simp)) hg,
    grown_trans (grown_trans (grown_trans (grown_alloc _ _ _) (grown_alloc _ _ _)) (grown_alloc _ _ _)) hg, by omega⟩

set_option maxHeartbeats 4000000 in
theorem dcmp_calls (v v2 : Value) (a b : Dy) (w : World) (hv : DR w v a) (ho : a.ok) (hv2 : DR w v2 b) (ho2 : b.ok) :
    Calls Tryz.prog 102 #[v, v2] w fun en w' => en = .returned (.int .i64 (dcmp a b)) ∧ Below w.heap.size w w' := by
  have hlev := fun W (hg : w.grownBy W none) => dlevel_calls v v2 a b W (NR.grown0 hv hg) ho (NR.grown0 hv2 hg) ho2
  have hs1 := fun W (hg : w.grownBy W none) => dsign_calls v a.neg a.m a.e W (NR.grown0 hv hg) ho
  have hs2 := fun W (hg : w.grownBy W none) => dsign_calls v2 b.neg b.m b.e W (NR.grown0 hv2 hg) ho2
  have ht1 := fun W (hg : w.grownBy W none) => dtop_calls v a.neg a.m a.e W (NR.grown0 hv hg) ho
  have ht2 := fun W (hg : w.grownBy W none) => dtop_calls v2 b.neg b.m b.e W (NR.grown0 hv2 hg) ho2
  change ∀ W, _ → Calls _ _ _ _ (fun e w' => e = .returned (.int .i64 (topD a)) ∧ _) at ht1
  change ∀ W, _ → Calls _ _ _ _ (fun e w' => e = .returned (.int .i64 (topD b)) ∧ _) at ht2
  obtain ⟨A, c, rfl, hc, hcm, hW⟩ := hv
  obtain ⟨A2, c2, rfl, hc2, hcm2, hW2⟩ := hv2
  have hN1 : NR w (NV a.neg A (words a.m).length c a.e) a.neg a.m a.e := ⟨A, c, rfl, hc, hcm, hW⟩
  have hN2 : NR w (NV b.neg A2 (words b.m).length c2 b.e) b.neg b.m b.e := ⟨A2, c2, rfl, hc2, hcm2, hW2⟩
  obtain ⟨hlx, hly⟩ := lv_len ho ho2
  obtain ⟨L, hL⟩ : ∃ L, L = (words a.m).length := ⟨_, rfl⟩
  obtain ⟨L2, hL2⟩ : ∃ L, L = (words b.m).length := ⟨_, rfl⟩
  have hval := fun o1 o2 t => dvalids_calls (w.heap.size + 1 + 1) 2 _ (by decide) (valid_two (w := (w.alloc o1).alloc o2) (t := t) ho ho2 ((hN1.grown0 (grown_alloc _ _ _)).grown0 (grown_alloc _ _ _)) ((hN2.grown0 (grown_alloc _ _ _)).grown0 (grown_alloc _ _ _)) (by simp))
  unfold NV at hlev hs1 hs2 ht1 ht2 ⊢
  simp only [← hL, ← hL2] at hval hlev
  simp only [← hL] at hs1 ht1
  simp only [← hL2] at hs2 ht2
  rw [← hL, ← hL2]
  have HV := Lib.hid hval
  have HLv := Lib.hid hlev
  have HS1 := Lib.hid hs1
  have HS2 := Lib.hid hs2
  have HT1 := Lib.hid ht1
  have HT2 := Lib.hid ht2
  clear hval hL hL2 hW hW2 hc hc2 hlev hN1 hN2 hs1 hs2 ht1 ht2
  go_enter Tryz.func102, Tryz.ntmps102
  go_wp2_with fail
  refine (HV.out _ _ _).mono ?_
  rintro e1 w1 ⟨rfl, hg⟩
  obtain ⟨r0, r1, r2, hw1, hsz⟩ := box3 hg
  obtain ⟨x0, x1, x2⟩ := row3 r0
  obtain ⟨x3, x4, x5⟩ := row3 r1
  have hwb : IntKind.i64.wrap 0 = 0 := rfl
  have KQ : Hid (∀ w0 w' : World, w0.cell? ⟨w.heap.size, 0, none⟩ = some (.bool a.neg) → w0.cell? ⟨w.heap.size, 1, none⟩ = some (.slice A L c) → w0.cell? ⟨w.heap.size, 2, none⟩ = some (.int .i64 a.e) → w0.cell? ⟨w.heap.size + 1, 0, none⟩ = some (.bool b.neg) → w0.cell? ⟨w.heap.size + 1, 1, none⟩ = some (.slice A2 L2 c2) → w0.cell? ⟨w.heap.size + 1, 2, none⟩ = some (.int .i64 b.e) → w.grownBy w0 none → w0.grownBy w' none → w'.cell? ⟨w.heap.size, 0, none⟩ = some (.bool a.neg) ∧ w'.cell? ⟨w.heap.size, 1, none⟩ = some (.slice A L c) ∧ w'.cell? ⟨w.heap.size, 2, none⟩ = some (.int .i64 a.e) ∧ w'.cell? ⟨w.heap.size + 1, 0, none⟩ = some (.bool b.neg) ∧ w'.cell? ⟨w.heap.size + 1, 1, none⟩ = some (.slice A2 L2 c2) ∧ w'.cell? ⟨w.heap.size + 1, 2, none⟩ = some (.int .i64 b.e) ∧ w.grownBy w' none) := fun w0 w' h0 h1 h2 h3 h4 h5 h6 h => ⟨cell_ext h h0, cell_ext h h1, cell_ext h h2, cell_ext h h3, cell_ext h h4, cell_ext h h5, grown_trans h6 h⟩
  have KK : Hid (∀ w' : World, w1.grownBy w' none → w'.cell? ⟨w.heap.size, 0, none⟩ = some (.bool a.neg) ∧ w'.cell? ⟨w.heap.size, 1, none⟩ = some (.slice A L c) ∧ w'.cell? ⟨w.heap.size, 2, none⟩ = some (.int .i64 a.e) ∧ w'.cell? ⟨w.heap.size + 1, 0, none⟩ = some (.bool b.neg) ∧ w'.cell? ⟨w.heap.size + 1, 1, none⟩ = some (.slice A2 L2 c2) ∧ w'.cell? ⟨w.heap.size + 1, 2, none⟩ = some (.int .i64 b.e) ∧ w.grownBy w' none) := fun w' h => KQ.out w1 w' x0 x1 x2 x3 x4 x5 hw1 h
  obtain ⟨s1, hs1⟩ : ∃ s, s = sgD a.neg a.m := ⟨_, rfl⟩
  obtain ⟨s2, hs2⟩ : ∃ s, s = sgD b.neg b.m := ⟨_, rfl⟩
  obtain ⟨t1, ht1⟩ : ∃ s, s = topD a := ⟨_, rfl⟩
  obtain ⟨t2, ht2⟩ : ∃ s, s = topD b := ⟨_, rfl⟩
  have hsb1 : -1 ≤ s1 ∧ s1 ≤ 1 := by rw [hs1]; unfold sgD; split; omega; split <;> omega
  have hsb2 : -1 ≤ s2 ∧ s2 ≤ 1 := by rw [hs2]; unfold sgD; split; omega; split <;> omega
  have HDC : Hid (dcmp a b = if s1 ≠ s2 ∨ s1 = 0 then (s1 - s2) - (s1 - s2).tdiv 2 else if t1 ≠ t2 then (if decide (t1 < t2) = a.neg then 1 else -1) else cmpZ (lvX a b) (lvY a b)) := by
    show dcmp a b = _
    unfold dcmp
    rw [hs1, hs2, ht1, ht2]
  rw [← hs1] at HS1
  rw [← hs2] at HS2
  rw [← ht1] at HT1
  rw [← ht2] at HT2
  clear hs1 hs2 ht1 ht2 hg r0 r1 r2
  go_upto_region 3 with fail
  go_cut [5, 6] (fun v5 v6 wx => v5 = .int .i64 s1 ∧ v6 = .int .i64 s2 ∧ Hid (w1.grownBy wx none))
  case first =>
    go_region_held3 (fun w' : World => w'.cell? ⟨w.heap.size, 0, none⟩ = some (.bool a.neg) ∧ w'.cell? ⟨w.heap.size, 1, none⟩ = some (.slice A L c) ∧ w'.cell? ⟨w.heap.size, 2, none⟩ = some (.int .i64 a.e) ∧ w'.cell? ⟨w.heap.size + 1, 0, none⟩ = some (.bool b.neg) ∧ w'.cell? ⟨w.heap.size + 1, 1, none⟩ = some (.slice A2 L2 c2) ∧ w'.cell? ⟨w.heap.size + 1, 2, none⟩ = some (.int .i64 b.e) ∧ w1.grownBy w' none)
      (first
        | exact ⟨x0, x1, x2, x3, x4, x5, ⟨rfl, rfl, rfl, Nat.le_refl _, fun _ _ _ => rfl⟩⟩
        | (go_split_ands; exact ⟨cell_ext hgl (by assumption), cell_ext hgl (by assumption), cell_ext hgl (by assumption), cell_ext hgl (by assumption), cell_ext hgl (by assumption), cell_ext hgl (by assumption), grown_trans (by assumption) hgl⟩))
      (first
        | (go_at_call_of 69 (Value.agg #[.bool a.neg, .slice A L c, .int .i64 a.e]); go_split_ands; refine (HS1.out _ (grown_trans hw1 (by assumption))).mono ?_; rintro e1 w2 ⟨rfl, hgl⟩)
        | (go_at_call_of 69 (Value.agg #[.bool b.neg, .slice A2 L2 c2, .int .i64 b.e]); go_split_ands; refine (HS2.out _ (grown_trans hw1 (by assumption))).mono ?_; rintro e1 w3 ⟨rfl, hgl⟩; have hlast := grown_trans (show w1.grownBy _ none by assumption) hgl))
    all_goals
      go_wp2
      go_meet
      exact ⟨rfl, rfl, hlast⟩
  case rest =>
    obtain ⟨rfl, rfl, hg2⟩ := hcut
    obtain ⟨y0, y1, y2, y3, y4, y5, hw2⟩ := KK.out _ hg2.out
    have HB2 : Hid (Below w.heap.size w wc) := below_of_grown0 hw2
    by_cases hc1 : s1 ≠ s2 ∨ s1 = 0
    · have HD2 : Hid (dcmp a b = (s1 - s2) - (s1 - s2).tdiv 2) := by
        show dcmp a b = _
        rw [HDC.out, if_pos hc1]
      have hres : Hid (∀ z, z = (s1 - s2) - (s1 - s2).tdiv 2 → (Ending.returned (.int .i64 z) = Ending.returned (.int .i64 (dcmp a b)) ∧ Below w.heap.size w wc)) := fun z hz => ⟨by rw [HD2.out, hz], HB2.out⟩
      have h1 : s1 = -1 ∨ s1 = 0 ∨ s1 = 1 := by omega
      have h2 : s2 = -1 ∨ s2 = 0 ∨ s2 = 1 := by omega
      clear HDC HD2
      rcases h1 with rfl | rfl | rfl <;> rcases h2 with rfl | rfl | rfl <;> first
        | exact absurd hc1 (by decide)
        | (clear hc1
           go_wp2
           go_ret
           exact hres.out _ (by rfl))
    · have hse : s1 = s2 := Decidable.byContradiction fun h => hc1 (.inl h)
      have hs0 : s1 ≠ 0 := fun h => hc1 (.inr h)
      subst hse
      have hb2 : (s1 == 0) = false := by rw [beq_eq_false_iff_ne]; exact hs0
      rw [if_neg hc1] at HDC
      clear hc1
      go_upto_region 6 with fail
      go_cut [7, 8] (fun v7 v8 wx => v7 = .int .i64 t1 ∧ v8 = .int .i64 t2 ∧ Hid (wc.grownBy wx none))
      case first =>
        go_region_held3 (fun w' : World => w'.cell? ⟨w.heap.size, 0, none⟩ = some (.bool a.neg) ∧ w'.cell? ⟨w.heap.size, 1, none⟩ = some (.slice A L c) ∧ w'.cell? ⟨w.heap.size, 2, none⟩ = some (.int .i64 a.e) ∧ w'.cell? ⟨w.heap.size + 1, 0, none⟩ = some (.bool b.neg) ∧ w'.cell? ⟨w.heap.size + 1, 1, none⟩ = some (.slice A2 L2 c2) ∧ w'.cell? ⟨w.heap.size + 1, 2, none⟩ = some (.int .i64 b.e) ∧ wc.grownBy w' none)
          (first
            | exact ⟨y0, y1, y2, y3, y4, y5, ⟨rfl, rfl, rfl, Nat.le_refl _, fun _ _ _ => rfl⟩⟩
            | (go_split_ands; exact ⟨cell_ext hgl (by assumption), cell_ext hgl (by assumption), cell_ext hgl (by assumption), cell_ext hgl (by assumption), cell_ext hgl (by assumption), cell_ext hgl (by assumption), grown_trans (by assumption) hgl⟩))
          (first
            | (go_at_call_of 121 (Value.agg #[.bool a.neg, .slice A L c, .int .i64 a.e]); go_split_ands; refine (HT1.out _ (grown_trans hw2 (by assumption))).mono ?_; rintro e1 w2 ⟨rfl, hgl⟩)
            | (go_at_call_of 121 (Value.agg #[.bool b.neg, .slice A2 L2 c2, .int .i64 b.e]); go_split_ands; refine (HT2.out _ (grown_trans hw2 (by assumption))).mono ?_; rintro e1 w3 ⟨rfl, hgl⟩; have hlast := grown_trans (show wc.grownBy _ none by assumption) hgl))
        all_goals
          go_wp2
          go_meet
          exact ⟨rfl, rfl, hlast⟩
      case rest =>
        obtain ⟨rfl, rfl, hg3⟩ := hcut
        rename_i wc2
        obtain ⟨z0, z1, z2, z3, z4, z5, hw3⟩ := KQ.out _ _ y0 y1 y2 y3 y4 y5 hw2 hg3.out
        by_cases ht : t1 = t2
        · subst ht
          rw [if_neg (by simp)] at HDC
          go_wp2_with fail
          refine (HLv.out _ hw3).mono ?_
          rintro e1 w4 ⟨bx, by', rfl, hne, hbx, hby, hIx, hIy, hb3⟩
          have HC := Lib.hid (icmp_calls bx by' _ _ w4 hIx hIy (by omega) (by omega))
          clear hIx hIy
          go_wp2_with fail
          refine HC.out.mono ?_
          rintro e1 w5 ⟨rfl, q, hw5⟩
          obtain rfl := hw5.symm
          have hres : Hid (Ending.returned (.int .i64 (cmpZ (lvX a b) (lvY a b))) = Ending.returned (.int .i64 (dcmp a b)) ∧ Below w.heap.size w (w4.drewN q)) := ⟨by rw [HDC.out], ((below_of_grown0 hw3).trans (hb3.mono hw3.size)).trans (below_drewN _ _ _)⟩
          go_wp2
          go_ret
          exact hres.out
        · have hbn : (t1 != t2) = true := by rw [bne_iff_ne]; exact ht
          rw [if_pos ht] at HDC
          by_cases hd : decide (t1 < t2) = a.neg
          · rw [if_pos hd] at HDC
            have hde : (decide (t1 < t2) == a.neg) = true := by rw [beq_iff_eq]; exact hd
            have hres : Hid (Ending.returned (.int .i64 1) = Ending.returned (.int .i64 (dcmp a b)) ∧ Below w.heap.size w _) := ⟨by rw [HDC.out], below_of_grown0 hw3⟩
            clear hd ht
            go_wp2
            go_ret
            exact hres.out
          · rw [if_neg hd] at HDC
            have hde : (decide (t1 < t2) == a.neg) = false := by rw [beq_eq_false_iff_ne]; exact hd
            have hres : Hid (Ending.returned (.int .i64 (-1)) = Ending.returned (.int .i64 (dcmp a b)) ∧ Below w.heap.size w _) := ⟨by rw [HDC.out], below_of_grown0 hw3⟩
            clear hd ht
            go_wp2
            go_ret
            exact hres.out
end Go.Proofs.YtjbdadhggejoiaaGreatDoor

namespace Go.Proofs.YtjbdadhggejoiaaGreatDoor
open Go.RowKit
set_option maxRecDepth 100000
attribute [local go_sem] run_frombits run_bits store_f store_c

/-- a float that is neither infinite nor no number -/
def Fin64 (x : Nat) : Prop := x < 18446744073709551616 ∧ x / 4503599627370496 % 2048 ≠ 2047
def fneg (x : Nat) : Bool := x / 9223372036854775808 % 2 == 1
/-- its digits and their power of two -/
def fm (x : Nat) : Nat := if x / 4503599627370496 % 2048 = 0 then x % 4503599627370496 else 4503599627370496 + x % 4503599627370496
def fe (x : Nat) : Int := (if x / 4503599627370496 % 2048 = 0 then 1 else (x / 4503599627370496 % 2048 : Nat) : Int) - 1075
theorem dbl : FloatKind.f64.format = Ieee.double := rfl
theorem read_fin {x : Nat} (h : Fin64 x) : Ieee.double.read x = .number (fneg x) (fm x) (fe x) := by
  obtain ⟨h1, h2⟩ := h
  have e1 : Ieee.double.signWeight = 9223372036854775808 := rfl
  have e2 : Ieee.double.binade = 4503599627370496 := rfl
  have e3 : Ieee.double.infRung = 9218868437227405312 := rfl
  have e4 : Ieee.double.leastPlace = -1074 := rfl
  unfold Ieee.Format.read
  simp only [e1, e2, e3, e4]
  unfold fneg fm fe
  by_cases hz : x / 4503599627370496 % 2048 = 0
  · rw [if_pos (by omega), if_pos hz, if_pos hz]
    congr 1
    omega
  · rw [if_neg (by omega), if_pos (by omega), if_neg hz, if_neg hz]
    congr 1
    · omega
    · omega
theorem order_self {x : Nat} (h : Fin64 x) : Ieee.double.order x x = some .eq := by
  unfold Ieee.Format.order
  rw [read_fin h]
  simp [Ieee.Datum.order]
theorem fm_lt (x : Nat) : fm x < 9007199254740992 := by unfold fm; split <;> omega
theorem fe_bd {x : Nat} (h : Fin64 x) : -1074 ≤ fe x ∧ fe x ≤ 971 := by
  have := h.2
  unfold fe
  split <;> omega
theorem abs_fin {x : Nat} (h : Fin64 x) : Fin64 (x % 9223372036854775808) ∧ fneg (x % 9223372036854775808) = false := by
  obtain ⟨h1, h2⟩ := h
  refine ⟨⟨by omega, by omega⟩, ?_⟩
  unfold fneg
  rw [beq_eq_false_iff_ne]
  omega
theorem icmp_gt {a b : Int} (h : compare a b = .gt) : b < a := by
  change compareOfLessAndEq a b = .gt at h
  unfold compareOfLessAndEq at h
  split at h
  · cases h
  · split at h
    · cases h
    · omega
theorem icmp_lt {a b : Int} (h : a < b) : compare a b = .lt := by
  show compareOfLessAndEq a b = .lt
  unfold compareOfLessAndEq
  rw [if_pos h]
theorem icmp_gt' {a b : Int} (h : b < a) : compare a b = .gt := by
  show compareOfLessAndEq a b = .gt
  unfold compareOfLessAndEq
  rw [if_neg (by omega), if_neg (by omega)]
/-- no finite float is above the greatest -/
theorem order_max {x : Nat} (h : Fin64 x) (hp : fneg x = false) : Ieee.double.order x 9218868437227405311 ≠ some .gt := by
  have hM : Fin64 9218868437227405311 := ⟨by decide, by decide⟩
  unfold Ieee.Format.order
  rw [read_fin h, read_fin hM, hp]
  have e1 : fneg 9218868437227405311 = false := rfl
  have e2 : fm 9218868437227405311 = 9007199254740991 := rfl
  have e3 : fe 9218868437227405311 = 971 := rfl
  rw [e1, e2, e3]
  obtain ⟨h1, h2⟩ := fe_bd h
  have h3 := fm_lt x
  simp only [Ieee.Datum.order, Ieee.signed, Int.min_eq_left h2, Int.sub_self]
  obtain ⟨k, hk⟩ : ∃ k, (971 - fe x).toNat = k := ⟨_, rfl⟩
  rw [hk]
  simp only [Int.toNat_zero, Nat.shiftLeft_zero, Bool.false_eq_true, if_false, ne_eq, Option.some.injEq]
  have h4 : 9007199254740991 ≤ 9007199254740991 <<< k := by
    rw [Nat.shiftLeft_eq]
    exact Nat.le_mul_of_pos_right _ (Nat.two_pow_pos k)
  intro hc
  have hgt := icmp_gt hc
  omega

theorem andnot_sign {x : Nat} (h : x < 18446744073709551616) : (bits .andNot .u64 (x : Int) 9223372036854775808).toNat = x % 9223372036854775808 := by
  have := u64_andNot_nat x 9223372036854775808 h (by decide)
  rw [show ((9223372036854775808 : Nat) : Int) = 9223372036854775808 from rfl] at this
  rw [this, Int.toNat_natCast]
  exact Nat.and_two_pow_sub_one_eq_mod x 63
set_option maxHeartbeats 1000000 in
theorem isnan_calls (x : Nat) (w : World) (h : Fin64 x) : Calls Tryz.prog 17 #[.float .f64 x] w fun e w' => e = .returned (.bool false) ∧ w = w' := by
  have ho : (FloatKind.f64.format.order x x != some Ordering.eq) = false := by rw [dbl, order_self h]; rfl
  go_enter Tryz.func17, Tryz.ntmps17
  go_wp2
  go_ret
  exact ⟨rfl, rfl⟩
set_option maxHeartbeats 1000000 in
theorem isinf_calls (x : Nat) (w : World) (h : Fin64 x) : Calls Tryz.prog 18 #[.float .f64 x, .int .i64 0] w fun e w' => e = .returned (.bool false) ∧ w = w' := by
  have ho : (FloatKind.f64.format.order (bits .andNot .u64 (x : Int) 9223372036854775808).toNat 9218868437227405311 == some Ordering.gt) = false := by
    rw [dbl, andnot_sign h.1, beq_eq_false_iff_ne]
    exact order_max (abs_fin h).1 (abs_fin h).2
  go_enter Tryz.func18, Tryz.ntmps18
  go_wp2
  go_ret
  exact ⟨rfl, rfl⟩
end Go.Proofs.YtjbdadhggejoiaaGreatDoor

namespace Go.Proofs.YtjbdadhggejoiaaGreatDoor
open Go.RowKit
set_option maxRecDepth 100000
attribute [local go_sem] run_frombits run_bits store_f store_c

def ofF (x : Nat) : Dy := dnorm (sg (fneg x) (fm x)) (fe x)
theorem sg_abs (b : Bool) (m : Nat) : (sg b m).natAbs = m := by unfold sg; split <;> simp
theorem ofF_ok {x : Nat} (h : Fin64 x) : (ofF x).ok := by
  obtain ⟨h1, h2⟩ := fe_bd h
  have h3 := fm_lt x
  unfold ofF dnorm
  split
  · exact .inl ⟨rfl, rfl, rfl⟩
  · rename_i h0
    rw [sg_abs]
    have hm : fm x ≠ 0 := fun e => h0 (by rw [e]; unfold sg; split <;> rfl)
    obtain ⟨h4, h5⟩ := tz_spec hm
    have h6 := tz_le hm
    have h7 : (words (fm x)).length ≤ 2 := words_len_lt (by omega)
    have h8 : (words (fm x / 2 ^ tz (fm x))).length ≤ 2 := Nat.le_trans (words_len_le (Nat.div_le_self _ _)) h7
    exact .inr ⟨h5, by simp only; omega, by simp only; omega, by simp only; omega⟩
theorem and_frac {x : Nat} (h : x < 18446744073709551616) : bits .and .u64 (x : Int) 4503599627370495 = ((x % 4503599627370496 : Nat) : Int) := by
  have := u64_and_nat x 4503599627370495 h (by decide)
  rw [show ((4503599627370495 : Nat) : Int) = 4503599627370495 from rfl] at this
  rw [this]
  exact congrArg _ (Nat.and_two_pow_sub_one_eq_mod x 52)
theorem and_expo {y : Nat} (h : y < 18446744073709551616) : bits .and .u64 (y : Int) 2047 = ((y % 2048 : Nat) : Int) := by
  have := u64_and_nat y 2047 h (by decide)
  rw [show ((2047 : Nat) : Int) = 2047 from rfl] at this
  rw [this]
  exact congrArg _ (Nat.and_two_pow_sub_one_eq_mod y 11)
theorem or_hidden {y : Nat} (h : y < 4503599627370496) : bits .or .u64 (y : Int) 4503599627370496 = ((4503599627370496 + y : Nat) : Int) := by
  have := u64_or_nat y 4503599627370496 (by omega) (by decide)
  rw [show ((4503599627370496 : Nat) : Int) = 4503599627370496 from rfl] at this
  rw [this, Nat.or_comm]
  have h2 := Nat.two_pow_add_eq_or_of_lt (i := 52) (b := y) h 1
  exact congrArg _ h2.symm

set_option maxHeartbeats 4000000 in
theorem dof_calls (x : Nat) (w : World) (h : Fin64 x) (hT : Tab w) :
    Calls Tryz.prog 81 #[.float .f64 x] w fun e w' => DDone w (ofF x) e w' := by
  have hN := fun W => isnan_calls x W h
  have hI := fun W => isinf_calls x W h
  have hok := ofF_ok h
  have hnum : ∀ W X, IR W X (sg (fneg x) (fm x)) → Tab W → Calls Tryz.prog 83 #[.pointer (some ⟨X, 0, none⟩), .int .i64 (fe x)] W fun e w' => DDone W (ofF x) e w' := fun W X h1 h2 => by
    refine dnum_calls X _ _ W h1 hok ?_ h2
    rw [sg_abs]
    have := fm_lt x
    exact Nat.le_trans (words_len_lt (k := 2) (by omega)) (by decide)
  have hfe := fe_bd h
  have hfm := fm_lt x
  have hx := h.1
  have hb1 := and_frac h.1
  obtain ⟨fr, hfr⟩ : ∃ fr, fr = x % 4503599627370496 := ⟨_, rfl⟩
  obtain ⟨y, hy⟩ : ∃ y, y = x / 4503599627370496 := ⟨_, rfl⟩
  have hb2 := and_expo (y := y) (by omega)
  obtain ⟨ex, hex⟩ : ∃ ex, ex = y % 2048 := ⟨_, rfl⟩
  have hxy : (x : Int) / 4503599627370496 = (y : Int) := by omega
  have hb3 := or_hidden (y := fr) (by omega)
  rw [← hfr] at hb1
  rw [← hex] at hb2
  have hyb : y < 4096 := by omega
  have hexb : ex < 2048 := by omega
  have hfrb : fr < 4503599627370496 := by omega
  have hmz : ex = 0 → fm x = fr ∧ fe x = -1074 := fun e => by unfold fm fe; rw [← hy, ← hex, if_pos e, if_pos e, ← hfr]; exact ⟨rfl, rfl⟩
  have hmn : ex ≠ 0 → fm x = 4503599627370496 + fr ∧ fe x = (ex : Int) - 1075 := fun e => by unfold fm fe; rw [← hy, ← hex, if_neg e, if_neg e, ← hfr]; exact ⟨rfl, rfl⟩
  have hsg : fneg x = decide ((x : Int) / 9223372036854775808 = 1) := by
    unfold fneg
    rw [Bool.eq_iff_iff]
    simp only [beq_iff_eq, decide_eq_true_eq]
    omega
  obtain ⟨M, hM⟩ : ∃ M, M = fm x := ⟨_, rfl⟩
  obtain ⟨E, hE⟩ : ∃ E, E = fe x := ⟨_, rfl⟩
  obtain ⟨d, hd⟩ : ∃ d, d = ofF x := ⟨_, rfl⟩
  obtain ⟨ng, hng⟩ : ∃ ng, ng = fneg x := ⟨_, rfl⟩
  simp only [← hM, ← hE, ← hd, ← hng] at hnum
  rw [← hM] at hmz hmn hfm
  rw [← hE] at hmz hmn hfe
  rw [← hng] at hsg
  rw [← hd]
  have HNan := Lib.hid hN
  have HInf := Lib.hid hI
  have HNum := Lib.hid hnum
  have HT := Lib.hid hT
  have HZ := Lib.hid (⟨hmz, hmn⟩ : (ex = 0 → M = fr ∧ E = -1074) ∧ (ex ≠ 0 → M = 4503599627370496 + fr ∧ E = (ex : Int) - 1075))
  have HSG := Lib.hid hsg
  clear hfr hy hex hM hE hd hng hN hI hnum hT hmz hmn hsg hok h
  go_enter Tryz.func81, Tryz.ntmps81
  go_wp2_with fail
  refine (HNan.out _).mono ?_
  rintro e1 w1 ⟨rfl, rfl⟩
  go_wp2_with fail
  refine (HInf.out _).mono ?_
  rintro e1 w1 ⟨rfl, rfl⟩
  go_upto_if 25 with fail
  go_cut [5, 6] (fun v5 v6 wx => v5 = .int .u64 M ∧ v6 = .int .i64 (E + 1075) ∧ wx = w.alloc (.cells #[.bool false, .slice none 0 0, .int .i64 0] 74))
  case first =>
    by_cases h0 : ex = 0
    · obtain ⟨e1, e2⟩ := HZ.out.1 h0
      have hq : ((ex : Int) == 0) = true := by rw [h0]; rfl
      clear h0
      go_wp2
      go_meet
      exact ⟨by rw [e1], by rw [e2]; rfl, rfl⟩
    · obtain ⟨e1, e2⟩ := HZ.out.2 h0
      have hq : ((ex : Int) == 0) = false := by rw [beq_eq_false_iff_ne]; omega
      clear h0
      go_wp2
      go_meet
      exact ⟨by rw [e1]; go_num, by rw [e2]; go_num, rfl⟩
  case rest =>
    obtain ⟨rfl, rfl, rfl⟩ := hcut
    have hEe : E + 1075 - 1075 = E := by omega
    have hMb : M < 18446744073709551616 := by omega
    go_wp2_with fail
    refine (isetu_calls (w.heap.size + 1) M _ (two_new' _ (by simp)) hMb).mono ?_
    rintro e1 w1 ⟨rfl, hI1, hg1⟩
    have HI1 := Lib.hid hI1
    have HW1 : Hid (Below (w.heap.size + 1) (w.alloc (.cells #[.bool false, .slice none 0 0, .int .i64 0] 74)) w1) := ((Below.refl _ _).alloc (by simp) _).trans (below_of_grown hg1 (by omega) (by simp))
    clear hI1 hg1
    have HW0 : Hid (Below w.heap.size w w1) := ((Below.refl _ _).alloc (Nat.le_refl _) _).trans (HW1.out.mono (by omega))
    cases ng
    · have hq : ((x : Int) / 9223372036854775808 == 1) = false := by
        have := HSG.out
        rw [beq_eq_false_iff_ne]
        exact of_decide_eq_false this.symm
      have HIs : Hid (IR w1 (w.heap.size + 1) (sg false M)) := HI1.out
      go_wp2_with fail
      refine (HNum.out _ _ HIs.out (HT.out.below HW0.out HT.out.pos)).mono ?_
      rintro e1 w5 ⟨v5, rfl, ⟨A5, c5, rfl, hc5, hcm5, hW5⟩, hb5⟩
      unfold NV
      have HB5 : Hid (Below (w.heap.size + 1) (w.alloc (.cells #[.bool false, .slice none 0 0, .int .i64 0] 74)) w5) := HW1.out.trans (hb5.mono (by have := HW1.out.size; rw [World.size_alloc] at this; exact this))
      have hT5 : Three w5 w.heap.size := ⟨_, _, _, _, _, _, (HB5.out.block _ (by omega)).trans (heap_at rfl)⟩
      obtain ⟨q1, q2, q3, q4, q5, z0, z1, z2, z3, z4, z5⟩ := hT5.open
      have HBw : Hid (Below w.heap.size w w5) := ((Below.refl _ _).alloc (Nat.le_refl _) _).trans (HB5.out.mono (by omega))
      have HD5 : Hid (DDone w d (.returned (.tuple #[.agg #[.bool d.neg, .slice A5 (words d.m).length c5, .int .i64 d.e], .int .i64 0])) _) := NumDone.store hT5 hc5 hcm5 hW5 HBw.out (Nat.le_refl _)
      clear hW5 hb5
      go_wp2
      refine bodyPost_ret (v := .tuple #[.agg #[.bool d.neg, .slice A5 (words d.m).length c5, .int .i64 d.e], .int .i64 0]) ?_ rfl HD5.out
      simp [results, Tryz.results81, go_sem, *]
    · have hq : ((x : Int) / 9223372036854775808 == 1) = true := by
        have := HSG.out
        rw [beq_iff_eq]
        exact of_decide_eq_true this.symm
      go_wp2_with fail
      refine (ineg_calls (w.heap.size + 1) (w.heap.size + 1) M w1 HI1.out.two HI1.out).mono ?_
      rintro e1 w2 ⟨rfl, hI2, hg2⟩
      have HIs : Hid (IR w2 (w.heap.size + 1) (sg true M)) := hI2
      have HW2 : Hid (Below (w.heap.size + 1) (w.alloc (.cells #[.bool false, .slice none 0 0, .int .i64 0] 74)) w2) := HW1.out.trans (below_of_grown hg2 (Nat.le_refl _) HI1.out.lt)
      have HW02 : Hid (Below w.heap.size w w2) := ((Below.refl _ _).alloc (Nat.le_refl _) _).trans (HW2.out.mono (by omega))
      clear hI2 hg2
      go_wp2_with fail
      refine (HNum.out _ _ HIs.out (HT.out.below HW02.out HT.out.pos)).mono ?_
      rintro e1 w5 ⟨v5, rfl, ⟨A5, c5, rfl, hc5, hcm5, hW5⟩, hb5⟩
      unfold NV
      have HB5 : Hid (Below (w.heap.size + 1) (w.alloc (.cells #[.bool false, .slice none 0 0, .int .i64 0] 74)) w5) := HW2.out.trans (hb5.mono (by have := HW2.out.size; rw [World.size_alloc] at this; exact this))
      have hT5 : Three w5 w.heap.size := ⟨_, _, _, _, _, _, (HB5.out.block _ (by omega)).trans (heap_at rfl)⟩
      obtain ⟨q1, q2, q3, q4, q5, z0, z1, z2, z3, z4, z5⟩ := hT5.open
      have HBw : Hid (Below w.heap.size w w5) := ((Below.refl _ _).alloc (Nat.le_refl _) _).trans (HB5.out.mono (by omega))
      have HD5 : Hid (DDone w d (.returned (.tuple #[.agg #[.bool d.neg, .slice A5 (words d.m).length c5, .int .i64 d.e], .int .i64 0])) _) := NumDone.store hT5 hc5 hcm5 hW5 HBw.out (Nat.le_refl _)
      clear hW5 hb5
      go_wp2
      refine bodyPost_ret (v := .tuple #[.agg #[.bool d.neg, .slice A5 (words d.m).length c5, .int .i64 d.e], .int .i64 0]) ?_ rfl HD5.out
      simp [results, Tryz.results81, go_sem, *]
end Go.Proofs.YtjbdadhggejoiaaGreatDoor
