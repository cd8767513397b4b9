/- cuspref02: High, Scaled (numbers that are not below 0).
   cuspref02: 'sum' is the sum.
   cuspref02: 'down' is a number by a power of two, cut.
   cuspref02: 'norm' makes the number of a whole number that is not 0.
   cuspref02: 'Float' is a float's number (of floats above 0).
   cuspref02: Times (of numbers above 0).
   cuspref02: Plus (of numbers above 0). -/
import Derived.Test.YtjbdadhggejoiaaGreatDoorM16
import Derived.Test.YtjbdadhggejoiaaGreatDoorM27
import Derived.Test.YtjbdadhggejoiaaGreatDoorM04
import Derived.Test.YtjbdadhggejoiaaGreatDoorM06
import Derived.Test.YtjbdadhggejoiaaGreatDoorM09
import Derived.Test.YtjbdadhggejoiaaGreatDoorM19
import Derived.Test.YtjbdadhggejoiaaGreatDoorM07

namespace Go.Proofs.YtjbdadhggejoiaaGreatDoor
open Go.RowKit
set_option maxRecDepth 100000

theorem lenD (m : Nat) : (((words m).length : Int) == 0) = decide (m = 0) := by
  by_cases h : m = 0
  · subst h; rfl
  · rw [decide_eq_false h, beq_eq_false_iff_ne]
    intro h2
    have := val_words m
    rw [List.eq_nil_of_length_eq_zero (by omega : (words m).length = 0)] at this
    exact h this.symm
set_option maxHeartbeats 1000000 in
theorem chigh_calls (v : Value) (m : Nat) (e : Int) (w : World) (hv : NR w v false m e) (hm : m ≠ 0) (hl : (words m).length ≤ 1048576) (he : -16777216 ≤ e ∧ e ≤ 16777216) : Calls Tryz.prog 54 #[v] w fun en w' => en = .returned (.int .i64 ((Go.bitLen m : Int) + e)) ∧ w.grownBy w' none := by
  obtain ⟨A, c, rfl, hc, hcm, hW⟩ := hv
  have hN : NR w (NV false A (words m).length c e) false m e := ⟨A, c, rfl, hc, hcm, hW⟩
  have hS := fun (W : World) (hg : w.grownBy W none) => csize_calls A c m W hc (by omega) (hW.grown0 (Nat.le_refl _) hg)
  unfold NV
  have hlz := lenD m
  rw [decide_eq_false hm] at hlz
  have hbl : Go.bitLen m ≤ 32 * 1048576 := bl_len hl
  obtain ⟨L, hL⟩ : ∃ L, L = (words m).length := ⟨_, rfl⟩
  simp only [← hL] at hlz hS ⊢
  obtain ⟨bl, hb⟩ : ∃ b, b = Go.bitLen m := ⟨_, rfl⟩
  simp only [← hb] at hS hbl ⊢
  have HS := Lib.hid hS
  have hwr : IntKind.i64.wrap ((bl : Int) + e) = (bl : Int) + e := wrap_in (by omega) (by omega)
  clear hL hb hS hc hW hN hm hl
  go_enter Tryz.func54, Tryz.ntmps54
  go_upto_region 3 with fail
  obtain ⟨w2, hw2⟩ : ∃ w2, w2 = w.alloc (.cells #[.bool false, .slice A L c, .int .i64 e] 30) := ⟨_, rfl⟩
  have r0 : w2.heap[w.heap.size]? = some (.cells #[.bool false, .slice A L c, .int .i64 e] 30 (0, 0)) := by rw [hw2]; exact heap_at rfl
  have hg2 : w.grownBy w2 none := by rw [hw2]; exact grown_alloc _ _ _
  rw [← hw2]
  have KS : Hid (∀ w' : World, w2.grownBy w' none → w'.cell? ⟨w.heap.size, 0, none⟩ = some (.bool false) ∧ w'.cell? ⟨w.heap.size, 1, none⟩ = some (.slice A L c) ∧ w'.cell? ⟨w.heap.size, 2, none⟩ = some (.int .i64 e) ∧ w2.grownBy w' none) := fun w' h => by
    obtain ⟨a, b, d⟩ := row3 (heap_grown r0 h)
    exact ⟨a, b, d, h⟩
  have HG2 := Lib.hid hg2
  clear hw2 r0 hg2
  go_region_held3 (fun w' : World => w'.cell? ⟨w.heap.size, 0, none⟩ = some (.bool false) ∧ w'.cell? ⟨w.heap.size, 1, none⟩ = some (.slice A L c) ∧ w'.cell? ⟨w.heap.size, 2, none⟩ = some (.int .i64 e) ∧ w2.grownBy w' none)
    (first
      | with_reducible exact KS.out _ (drew_grown' _)
      | (go_split_ands; with_reducible exact KS.out _ (by assumption)))
    ((go_at_call 92; go_split_ands; refine (HS.out _ (grown_trans HG2.out (by assumption))).mono ?_; rintro e3 w1 ⟨rfl, hw1⟩; obtain rfl := hw1))
  all_goals
    go_wp2
    go_ret
    exact ⟨rfl, grown_trans HG2.out (drew_grown' _)⟩
/-- what a call leaves that makes a number -/
def NOne (w : World) (m : Nat) (e : Int) (en : Ending) (w' : World) : Prop := ∃ v, en = .returned v ∧ NR w' v false m e ∧ w.grownBy w' none
set_option maxHeartbeats 1000000 in
theorem cscaled_calls (v : Value) (m : Nat) (e : Int) (k : Int) (w : World) (hv : NR w v false m e) (hm : m ≠ 0) (he : -16777216 ≤ e ∧ e ≤ 16777216) (hk : -16777216 ≤ k ∧ k ≤ 16777216) : Calls Tryz.prog 9 #[v, .int .i64 k] w fun en w' => NOne w m (e + k) en w' := by
  obtain ⟨A, c, rfl, hc, hcm, hW⟩ := hv
  unfold NV
  have hlz := lenD m
  rw [decide_eq_false hm] at hlz
  obtain ⟨s, hs⟩ : ∃ s, s = e + k := ⟨_, rfl⟩
  have hwr : IntKind.i64.wrap (e + k) = s := by rw [hs]; exact wrap_in (by omega) (by omega)
  rw [← hs]
  obtain ⟨w2, hw2⟩ : ∃ w2, w2 = w.alloc (.cells #[.bool false, .slice A (words m).length c, .int .i64 e] 30) := ⟨_, rfl⟩
  have hg2 : w.grownBy w2 none := by rw [hw2]; exact grown_alloc _ _ _
  have hs2 : w2.heap.size = w.heap.size + 1 := by rw [hw2]; simp
  have hd : NOne w m s (.returned (.agg #[.bool false, .slice A (words m).length c, .int .i64 s])) (w2.alloc (.cells #[.bool false, .slice A (words m).length c, .int .i64 s] 30)) :=
    ⟨_, rfl, ⟨A, c, rfl, hc, hcm, hW.grown0 (Nat.le_refl _) (grown_trans hg2 (grown_alloc _ _ _))⟩, grown_trans hg2 (grown_alloc _ _ _)⟩
  rw [hw2] at hd
  obtain ⟨L, hL⟩ : ∃ L, L = (words m).length := ⟨_, rfl⟩
  simp only [← hL] at hlz hd ⊢
  have HD := Lib.hid hd
  clear hL hd hs hc hW hm he hk hw2 hg2 hs2
  go_enter Tryz.func9, Tryz.ntmps9
  go_wp2
  refine bodyPost_ret (v := .agg #[.bool false, .slice A L c, .int .i64 s]) ?_ rfl HD.out
  simp [results, Tryz.results9, go_sem, *]
end Go.Proofs.YtjbdadhggejoiaaGreatDoor

namespace Go.Proofs.YtjbdadhggejoiaaGreatDoor
open Go.RowKit
set_option maxRecDepth 100000

set_option maxHeartbeats 4000000 in
theorem csum_calls (A A2 : Option Addr) (c c2 n m : Nat) (w : World) (hc : (words n).length ≤ c) (hc2 : (words m).length ≤ c2) (hl : (words n).length ≤ 1073741824) (hl2 : (words m).length ≤ 1073741824) (h : Ws w w.heap.size A (words n)) (h2 : Ws w w.heap.size A2 (words m)) :
    Calls Tryz.prog 28 #[.slice A (words n).length c, .slice A2 (words m).length c2] w fun e w' => NDone w (n + m) e w' := by
  obtain ⟨i0, hi0, hz0, hz1, hz2⟩ := info_parts wordInfo
  have HH := Lib.hid h; have H2 := Lib.hid h2
  clear h h2
  obtain ⟨l, hln⟩ : ∃ l, l = words n := ⟨_, rfl⟩
  obtain ⟨r, hrm⟩ : ∃ r, r = words m := ⟨_, rfl⟩
  rw [← hln] at HH hl hc ⊢
  rw [← hrm] at H2 hl2 hc2 ⊢
  have Hl := Lib.hid hln; have Hr := Lib.hid hrm
  clear hln hrm
  go_enter Tryz.func28, Tryz.ntmps28
  go_wp2
  go_loopw [5, 6, 7] (fun v5 v6 i wr => ∃ (k cy : Nat) (out : List Nat), (k ≤ l.length ∨ k ≤ r.length) ∧ i = .int .i64 k ∧ v6 = .int .u64 cy ∧ cy ≤ 1 ∧ Hid (wr.ownsRow w.heap.size 51 1 v5 k (uCells out)) ∧ out.length = k ∧ Hid (IsW out ∧ val out + 4294967296 ^ k * cy = val (l.take k) + val (r.take k)) ∧ Below w.heap.size w wr) (fun _ _ i _ => (l.length + r.length) - (intOf i).toNat)
  case atStart => exact ⟨0, 0, [], by omega, rfl, rfl, by omega, ⟨rfl, .inl ⟨rfl, rfl⟩⟩, rfl, ⟨fun x hx => (by cases hx), by simp [val]⟩, Below.refl _ _⟩
  case round =>
    obtain ⟨k, cy, out, hk, rfl, rfl, hcy, hO, hol, hV, hb⟩ := hrel
    by_cases hlt : k < l.length
    · obtain ⟨ad, rfl, hab, h1⟩ := HH.out.at_ k hlt
      have g1 : wr.cell? (ad.add k) = some (.int .u32 (l[k] : Nat)) := (hb.cell (by rw [addr_block]; exact hab)).trans h1
      obtain ⟨x, hx⟩ : ∃ x, x = l[k] := ⟨_, rfl⟩
      rw [← hx] at g1
      have hxw : x < 4294967296 := by rw [hx]; have := words_isW n; rw [← Hl.out] at this; exact this _ (List.getElem_mem hlt)
      have Hx := Lib.hid hx
      clear hx h1
      by_cases hr : k < r.length
      · obtain ⟨ad2, rfl, hab2, h2⟩ := H2.out.at_ k hr
        have g2 : wr.cell? (ad2.add k) = some (.int .u32 (r[k] : Nat)) := (hb.cell (by rw [addr_block]; exact hab2)).trans h2
        obtain ⟨y, hy⟩ : ∃ y, y = r[k] := ⟨_, rfl⟩
        rw [← hy] at g2
        have hyw : y < 4294967296 := by rw [hy]; have := words_isW m; rw [← Hr.out] at this; exact this _ (List.getElem_mem hr)
        have Hy := Lib.hid hy
        clear hy h2
        go_wp2_with (at_builtin; (refine wpList_append_own_at _ (by rfl) (.tmp 42) (.tmp 45) 28 (by rfl) w.heap.size 51 i0 _ 1 4 Tryz.underlying28 hi0 hz0 hz1 hz2 rfl (by omega) _ k (uCells out) (by rfl) (hO.out.alloc _) ⟨wr.heap.size, 0, none⟩ 1 1 [.int .u32 ((↑cy + ↑x + ↑y) % 4294967296)] (by rfl) (by rfl) (news_next #[.int .u32 ((↑cy + ↑x + ↑y) % 4294967296)] 51 (by simp)) (by simp [Value.oneCell']) (by simp only [maxLen]; omega) (by omega) (by simp; have := hb.size; omega) ?_); intro v3 w3 hown1 hgrow hnil hat)
        go_roundw
        case rel =>
          have hs := add_step (x := x) (y := y) hlt Hx.out (.inl ⟨hr, Hy.out⟩) hol hV.out
          exact ⟨k + 1, (cy + x + y) / 4294967296, out ++ [(cy + x + y) % 4294967296], by omega, by go_num, by go_num, by omega, u_snoc hown1 (by omega), by simp [hol], hs, below_app0 hb hgrow hb.size (fun k hk => (hO.out.lt _ hk).1)⟩
        case measure => simp [intOf]; omega
      · go_wp2_with (at_builtin; (refine wpList_append_own_at _ (by rfl) (.tmp 42) (.tmp 45) 28 (by rfl) w.heap.size 51 i0 _ 1 4 Tryz.underlying28 hi0 hz0 hz1 hz2 rfl (by omega) _ k (uCells out) (by rfl) (hO.out.alloc _) ⟨wr.heap.size, 0, none⟩ 1 1 [.int .u32 ((↑cy + ↑x) % 4294967296)] (by rfl) (by rfl) (news_next #[.int .u32 ((↑cy + ↑x) % 4294967296)] 51 (by simp)) (by simp [Value.oneCell']) (by simp only [maxLen]; omega) (by omega) (by simp; have := hb.size; omega) ?_); intro v3 w3 hown1 hgrow hnil hat)
        go_roundw
        case rel =>
          have hs := (show _ ∧ _ by have h := add_step (x := x) (y := 0) hlt Hx.out (.inr ⟨by omega, rfl⟩) hol hV.out; rw [Nat.add_zero] at h; exact h)
          exact ⟨k + 1, (cy + x) / 4294967296, out ++ [(cy + x) % 4294967296], by omega, by go_num, by go_num, by omega, u_snoc hown1 (by omega), by simp [hol], hs, below_app0 hb hgrow hb.size (fun k hk => (hO.out.lt _ hk).1)⟩
        case measure => simp [intOf]; omega
    · by_cases hr : k < r.length
      · obtain ⟨ad2, rfl, hab2, h2⟩ := H2.out.at_ k hr
        have g2 : wr.cell? (ad2.add k) = some (.int .u32 (r[k] : Nat)) := (hb.cell (by rw [addr_block]; exact hab2)).trans h2
        obtain ⟨y, hy⟩ : ∃ y, y = r[k] := ⟨_, rfl⟩
        rw [← hy] at g2
        have hyw : y < 4294967296 := by rw [hy]; have := words_isW m; rw [← Hr.out] at this; exact this _ (List.getElem_mem hr)
        have Hy := Lib.hid hy
        clear hy h2
        go_wp2_with (at_builtin; (refine wpList_append_own_at _ (by rfl) (.tmp 42) (.tmp 45) 28 (by rfl) w.heap.size 51 i0 _ 1 4 Tryz.underlying28 hi0 hz0 hz1 hz2 rfl (by omega) _ k (uCells out) (by rfl) (hO.out.alloc _) ⟨wr.heap.size, 0, none⟩ 1 1 [.int .u32 ((↑cy + ↑y) % 4294967296)] (by rfl) (by rfl) (news_next #[.int .u32 ((↑cy + ↑y) % 4294967296)] 51 (by simp)) (by simp [Value.oneCell']) (by simp only [maxLen]; omega) (by omega) (by simp; have := hb.size; omega) ?_); intro v3 w3 hown1 hgrow hnil hat)
        go_roundw
        case rel =>
          have hs := (show _ ∧ _ by have h := add_step (l := r) (r := l) (x := y) (y := 0) hr Hy.out (.inr ⟨by omega, rfl⟩) hol ⟨hV.out.1, by rw [Nat.add_comm (val (r.take k))]; exact hV.out.2⟩; rw [Nat.add_zero, Nat.add_comm (val (r.take (k + 1)))] at h; exact h)
          exact ⟨k + 1, (cy + y) / 4294967296, out ++ [(cy + y) % 4294967296], by omega, by go_num, by go_num, by omega, u_snoc hown1 (by omega), by simp [hol], hs, below_app0 hb hgrow hb.size (fun k hk => (hO.out.lt _ hk).1)⟩
        case measure => simp [intOf]; omega
      · have hle1 : l.length ≤ k := by omega
        have hle2 : r.length ≤ k := by omega
        have hsum : val out + 4294967296 ^ k * cy = n + m := by
          have h1 := hV.out.2
          rwa [List.take_of_length_le hle1, List.take_of_length_le hle2, Hl.out, Hr.out, val_words, val_words] at h1
        have hge : k ≠ 0 → 4294967296 ^ (k - 1) ≤ n + m := fun hk0 => by
          by_cases hkl : k = l.length
          · have := val_ge (by rw [Hl.out]; exact canon_of n : Canon l) (fun e => by rw [e] at hkl; exact hk0 hkl)
            rw [← hkl] at this
            have e2 : val l = n := by rw [Hl.out, val_words]
            omega
          · have hkr : k = r.length := by omega
            have := val_ge (by rw [Hr.out]; exact canon_of m : Canon r) (fun e => by rw [e] at hkr; exact hk0 hkr)
            rw [← hkr] at this
            have e2 : val r = m := by rw [Hr.out, val_words]
            omega
        by_cases hc0 : cy = 0
        · subst hc0
          have hd : NDone w (n + m) (.returned u5) wr := NDone.of hO.out hol (canon_big hV.out.1 fun hne => by rw [hol]; have := hge (fun e => hne (List.eq_nil_of_length_eq_zero (by omega))); omega) (by omega) hb
          have HD := Lib.hid hd
          clear hd hge hsum
          go_wp2
          go_ret
          exact HD.out
        · obtain rfl : cy = 1 := by omega
          have HS := Lib.hid hsum
          clear hge hsum
          go_wp2_with (at_builtin; (refine wpList_append_own_at _ (by rfl) (.tmp 51) (.tmp 54) 28 (by rfl) w.heap.size 51 i0 _ 1 4 Tryz.underlying28 hi0 hz0 hz1 hz2 rfl (by omega) _ k (uCells out) (by rfl) (hO.out.alloc _) ⟨wr.heap.size, 0, none⟩ 1 1 [.int .u32 (1)] (by rfl) (by rfl) (news_next #[.int .u32 (1)] 51 (by simp)) (by simp [Value.oneCell']) (by simp only [maxLen]; omega) (by omega) (by simp; have := hb.size; omega) ?_); intro v3 w3 hown1 hgrow hnil hat)
          go_ret
          refine NDone.of (u_snoc (d := 1) hown1 rfl) (by simp [hol]) (canon_big (hV.out.1.snoc (by decide)) fun _ => ?_) ?_ (below_app0 hb hgrow hb.size (fun k hk => (hO.out.lt _ hk).1))
          · rw [val_snoc, List.length_append, List.length_singleton, Nat.add_sub_cancel, hol]
            omega
          · have h1 := HS.out
            rw [val_snoc, hol]
            omega
end Go.Proofs.YtjbdadhggejoiaaGreatDoor

namespace Go.Proofs.YtjbdadhggejoiaaGreatDoor
open Go.RowKit
set_option maxRecDepth 100000

/-- what a call leaves that makes a number, and a word on it -/
def NDoneB (w : World) (n : Nat) (e : Ending) (w' : World) : Prop := ∃ A c b, e = .returned (.tuple #[.slice A (words n).length c, .bool b]) ∧ (words n).length ≤ c ∧ c ≤ maxLen ∧ Ws w' w'.heap.size A (words n) ∧ Below w.heap.size w w'
set_option maxHeartbeats 4000000 in
theorem cdown_calls (A : Option Addr) (c n k : Nat) (w : World) (hc : (words n).length ≤ c) (hcm : c ≤ maxLen) (hl : (words n).length ≤ 1073741824) (hk : k / 32 < (words n).length) (h : Ws w w.heap.size A (words n)) :
    Calls Tryz.prog 53 #[.slice A (words n).length c, .int .i64 k] w fun e w' => NDoneB w (n / 2 ^ k) e w' := by
  obtain ⟨i0, hi0, hz0, hz1, hz2⟩ := info_parts wordInfo
  have hp : (2 : Nat) ^ k = 4294967296 ^ (k / 32) * 2 ^ (k % 32) := by
    have h2 : (4294967296 : Nat) ^ (k / 32) = 2 ^ (32 * (k / 32)) := by rw [Nat.pow_mul]
    rw [h2, ← Nat.pow_add, Nat.div_add_mod]
  have hN : n / 2 ^ k = n / 4294967296 ^ (k / 32) / 2 ^ (k % 32) := by rw [hp, Nat.div_div_eq_div_mul]
  have hlen : (words n).length = k / 32 + (words (n / 4294967296 ^ (k / 32))).length := by
    rw [← words_div, List.length_drop]; omega
  rw [hN]
  obtain ⟨M, hM⟩ : ∃ M, M = n / 4294967296 ^ (k / 32) := ⟨_, rfl⟩
  rw [← hM] at hlen ⊢
  obtain ⟨ad, rfl, hab, hcell⟩ : ∃ ad, A = some ad ∧ ad.block < w.heap.size ∧ ∀ i (hi : i < (words n).length), w.cell? (ad.add i) = some (.int .u32 ((words n)[i] : Nat)) := by
    obtain ⟨ad, e, hb, _⟩ := h.at_ 0 (by omega)
    refine ⟨ad, e, hb, fun i hi => ?_⟩
    obtain ⟨ad', e', _, hc'⟩ := h.at_ i hi
    rw [e] at e'
    injection e' with e'
    rw [e']
    exact hc'
  have HC := Lib.hid hcell
  have hML : Hid (∀ j (hj : k / 32 + j < (words n).length), (words n)[k / 32 + j] = M / 4294967296 ^ j % 4294967296) := fun j hj => by
    rw [words_at, hM, Nat.pow_add, Nat.div_div_eq_div_mul]
  obtain ⟨L, hL⟩ : ∃ L, L = (words n).length := ⟨_, rfl⟩
  obtain ⟨q, hq⟩ : ∃ q, q = k / 32 := ⟨_, rfl⟩
  have hqk : (k : Int) / 32 = (q : Int) := by omega
  have HX : Hid (∀ i, i < L → ∃ x, x < 4294967296 ∧ (q ≤ i → x = M / 4294967296 ^ (i - q) % 4294967296) ∧ ∀ W, Below w.heap.size w W → W.cell? (ad.add i) = some (.int .u32 (x : Nat))) := fun i hi => by
    have hi' : i < (words n).length := by rw [← hL]; exact hi
    refine ⟨(words n)[i], words_isW n _ (List.getElem_mem hi'), fun hqi => ?_, fun W hb => (hb.cell (by rw [addr_block]; exact hab)).trans (HC.out i hi')⟩
    have e : i = k / 32 + (i - q) := by omega
    have h2 := hML.out (i - q) (by rw [← e]; exact hi')
    rw [← h2]
    congr 1
  have hlenL : L = q + (words M).length := by omega
  have HLL := Lib.hid hlenL
  rw [← hL] at hc hl ⊢
  rw [← hL, ← hq] at hk
  have hkr : k % 32 < 32 := Nat.mod_lt _ (by decide)
  obtain ⟨r, hr⟩ : ∃ r, r = k % 32 := ⟨_, rfl⟩
  have hkr2 : (k : Int) % 32 = (r : Int) := by omega
  rw [← hr] at hkr ⊢
  clear hr hq hlenL hp hN hlen hcell HC hML hL hM h
  go_enter Tryz.func53, Tryz.ntmps53
  go_wp2
  go_loopw [6, 7] (fun v6 v7 wr => ∃ (i : Nat) (b : Bool), i ≤ q ∧ v6 = .bool b ∧ v7 = .int .i64 i ∧ w = wr) (fun _ v7 _ => q - (intOf v7).toNat)
  case atStart => exact ⟨0, true, by omega, rfl, rfl, rfl⟩
  case round =>
    obtain ⟨i, b, hi, rfl, rfl, rfl⟩ := hrel
    by_cases hlt : i < q
    · obtain ⟨x, hx, _, hcx⟩ := HX.out i (by omega)
      have g0 := hcx w (Below.refl _ _)
      clear hcx
      cases b
      · go_wp2
        exact ⟨⟨i + 1, _, by omega, rfl, by go_num, by first | rfl | trivial⟩, by simp [intOf]; omega⟩
      · go_wp2
        exact ⟨⟨i + 1, _, by omega, rfl, by go_num, by first | rfl | trivial⟩, by simp [intOf]; omega⟩
    · obtain rfl : i = q := by omega
      clear hlt
      obtain ⟨x, hx, _, hcx⟩ := HX.out i (by omega)
      have g0 := hcx w (Below.refl _ _)
      clear hcx
      go_upto_region 9 with fail
      go_cut [6] (fun v6 wx => ∃ b, v6 = .bool b ∧ w = wx)
      case first =>
        cases b
        · go_wp2
          go_meet
          exact ⟨_, rfl, rfl⟩
        · go_wp2
          go_meet
          exact ⟨_, rfl, rfl⟩
      case rest =>
        obtain ⟨b2, rfl, rfl⟩ := hcut
        clear g0 hx
        go_wp2
        go_loopw [9, 10] (fun v9 v10 wr => ∃ (j : Nat) (out : List Nat), i + j ≤ L ∧ v10 = .int .i64 ((i + j : Nat) : Int) ∧ Hid (wr.ownsRow w.heap.size 51 1 v9 j (uCells out)) ∧ out.length = j ∧ Hid (IsW out ∧ val out = M / 2 ^ r % 4294967296 ^ j) ∧ Below w.heap.size w wr) (fun _ v10 _ => L - (intOf v10).toNat)
        case atStart => exact ⟨0, [], by omega, rfl, ⟨rfl, .inl ⟨rfl, rfl⟩⟩, rfl, ⟨fun x hx => (by cases hx), by simp [val, Nat.mod_one]⟩, Below.refl _ _⟩
        case round =>
          obtain ⟨j, out, hj, rfl, hO, hol, hV, hb⟩ := hrel
          by_cases hlt : i + j < L
          · obtain ⟨x, hx, hxe, hcx⟩ := HX.out (i + j) hlt
            have g1 := hcx wr hb
            have hxm : x = M / 4294967296 ^ j % 4294967296 := by have := hxe (by omega); rwa [Nat.add_sub_cancel_left] at this
            have Hx := Lib.hid hxm
            clear hcx hxe hxm
            by_cases hj2 : i + j + 1 < L
            · obtain ⟨y, hyw, hye, hcy⟩ := HX.out (i + j + 1) hj2
              have g2 := hcy wr hb
              rw [addr_succ _ _ (by omega)] at g2
              have hym : y = M / 4294967296 ^ j / 4294967296 % 4294967296 := by
                have := hye (by omega)
                rw [Nat.div_div_eq_div_mul, ← Nat.pow_succ, this]
                congr 3
                omega
              have Hy := Lib.hid hym
              clear hcy hye hym
              have hor := shr_or hx hyw
              obtain ⟨d, hd⟩ : ∃ d, d = (x + 4294967296 * y) / 2 ^ r % 4294967296 := ⟨_, rfl⟩
              have HD := Lib.hid hd
              clear hd
              --CASE a
              go_wp2_with (at_builtin; (refine wpList_append_own_at _ (by rfl) (.tmp 81) (.tmp 86) 28 (by rfl) w.heap.size 51 i0 _ 1 4 Tryz.underlying28 hi0 hz0 hz1 hz2 rfl (by omega) _ j (uCells out) (by rfl) (hO.out.alloc _) ⟨wr.heap.size, 0, none⟩ 1 1 [.int .u32 ((↑x + 4294967296 * ↑y) / 2 ^ r % 4294967296)] (by rfl) (by rfl) (news_next #[.int .u32 ((↑x + 4294967296 * ↑y) / 2 ^ r % 4294967296)] 51 (by simp)) (by simp [Value.oneCell']) (by simp only [maxLen]; omega) (by omega) (by simp; have := hb.size; omega) ?_); intro v3 w3 hown1 hgrow hnil hat)
              go_roundw
              case rel =>
                have hs := shr_step Hx.out Hy.out (by omega) hol hV.out HD.out
                have hq : ((x : Int) + 4294967296 * (y : Int)) / 2 ^ r % 4294967296 = (d : Int) := by
                  rw [HD.out, ← natDiv]
                  congr 2
                exact ⟨j + 1, out ++ [d], by omega, by go_num, u_snoc hown1 hq, by simp [hol], hs, below_app0 hb hgrow hb.size (fun k hk => (hO.out.lt _ hk).1)⟩
              case measure => simp [intOf]; omega
              --END a
            · have hy0 : 0 = M / 4294967296 ^ j / 4294967296 % 4294967296 := by
                have h1 := val_lt (words_isW M)
                rw [val_words] at h1
                have e : (words M).length = j + 1 := by have := HLL.out; omega
                rw [e] at h1
                rw [Nat.div_div_eq_div_mul, ← Nat.pow_succ, Nat.div_eq_of_lt h1]
              have HY := Lib.hid hy0
              obtain ⟨d, hd⟩ : ∃ d, d = (x + 4294967296 * 0) / 2 ^ r % 4294967296 := ⟨_, rfl⟩
              have HD := Lib.hid hd
              clear hd hy0
              --CASE b
              go_wp2_with (at_builtin; (refine wpList_append_own_at _ (by rfl) (.tmp 81) (.tmp 86) 28 (by rfl) w.heap.size 51 i0 _ 1 4 Tryz.underlying28 hi0 hz0 hz1 hz2 rfl (by omega) _ j (uCells out) (by rfl) (hO.out.alloc _) ⟨wr.heap.size, 0, none⟩ 1 1 [.int .u32 (↑x / 2 ^ r % 4294967296)] (by rfl) (by rfl) (news_next #[.int .u32 (↑x / 2 ^ r % 4294967296)] 51 (by simp)) (by simp [Value.oneCell']) (by simp only [maxLen]; omega) (by omega) (by simp; have := hb.size; omega) ?_); intro v3 w3 hown1 hgrow hnil hat)
              go_roundw
              case rel =>
                have hs := shr_step Hx.out HY.out (by omega) hol hV.out HD.out
                have hq : (x : Int) / 2 ^ r % 4294967296 = (d : Int) := by
                  rw [HD.out, ← natDiv]
                  rfl
                exact ⟨j + 1, out ++ [d], by omega, by go_num, u_snoc hown1 hq, by simp [hol], hs, below_app0 hb hgrow hb.size (fun k hk => (hO.out.lt _ hk).1)⟩
              case measure => simp [intOf]; omega
              --END b
          · have hjl : (words M).length = j := by have := HLL.out; omega
            have hfin : val out = M / 2 ^ r := by
              have h1 := val_lt (words_isW M)
              rw [val_words, hjl] at h1
              rw [hV.out.2]
              exact Nat.mod_eq_of_lt (Nat.lt_of_le_of_lt (Nat.div_le_self _ _) h1)
            obtain ⟨X, cx, rfl, hcx, hcm2, hX⟩ := own_slice1 hO.out
            have hX2 : Ws wr wr.heap.size X out := by unfold Ws; rw [hol]; exact hX
            have HI := Lib.hid hV.out.1
            have ht := ctrim_calls X cx wr.heap.size _ wr (by omega) (by omega) HI.out hX2
            rw [hol, hfin] at ht
            have HT := Lib.hid ht
            have hb3 := hb
            clear ht hX hX2 hO hfin hol
            --CASE c
            go_wp2_with fail
            refine HT.out.mono ?_
            rintro e w2 ⟨rfl, hw2, hc3, rfl⟩
            have hd : NDoneB w (M / 2 ^ r) (.returned (.tuple #[.slice X (words (M / 2 ^ r)).length cx, .bool b2])) w2 := ⟨X, cx, b2, rfl, hc3, hcm2, hw2, hb3⟩
            have HD := Lib.hid hd
            clear hd
            go_wp2
            refine bodyPost_ret (v := .tuple #[.slice X (words (M / 2 ^ r)).length cx, .bool b2]) ?_ rfl HD.out
            simp [results, Tryz.results53, go_sem]
            --END c
end Go.Proofs.YtjbdadhggejoiaaGreatDoor

namespace Go.Proofs.YtjbdadhggejoiaaGreatDoor
open Go.RowKit
set_option maxRecDepth 100000

theorem and1 {x s p : Nat} (hx : x < 4294967296) (hp : p = x / 2 ^ s % 2) : bits .and .u32 ((x : Int) / 2 ^ s) 1 = (p : Int) := by
  have e : ((x : Int) / 2 ^ s) = ((x / 2 ^ s : Nat) : Int) := by rw [Int.natCast_ediv, Int.natCast_pow]; rfl
  have := u32_and_nat (x / 2 ^ s) 1 (Nat.lt_of_le_of_lt (Nat.div_le_self _ _) hx) (by omega)
  rw [Nat.and_one_is_mod] at this
  rw [e, show ((1 : Int)) = ((1 : Nat) : Int) from rfl, this, hp]
/-- a bit of a number, from its words -/
theorem bit_word {M n : Nat} : M / 4294967296 ^ (n / 32) % 4294967296 / 2 ^ (n % 32) % 2 = M / 2 ^ n % 2 := by
  have hp : (2 : Nat) ^ n = 4294967296 ^ (n / 32) * 2 ^ (n % 32) := by
    have h2 : (4294967296 : Nat) ^ (n / 32) = 2 ^ (32 * (n / 32)) := by rw [Nat.pow_mul]
    rw [h2, ← Nat.pow_add, Nat.div_add_mod]
  rw [hp, ← Nat.div_div_eq_div_mul]
  generalize M / 4294967296 ^ (n / 32) = K
  have hr : n % 32 < 32 := Nat.mod_lt _ (by decide)
  generalize n % 32 = r at hr
  have h4 : (4294967296 : Nat) = 2 ^ r * (2 * 2 ^ (31 - r)) := by
    rw [← Nat.pow_succ', ← Nat.pow_add, show r + (31 - r + 1) = 32 by omega]
  rw [h4, Nat.mod_mul_right_div_self, Nat.mod_mul_right_mod]
theorem tz_bit {M n : Nat} (h : M ≠ 0) (hn : n < tz M) : M / 2 ^ n % 2 = 0 := by
  obtain ⟨h1, _⟩ := tz_spec h
  generalize M / 2 ^ tz M = o at h1
  rw [h1]
  have : (2 : Nat) ^ tz M = 2 ^ n * (2 * 2 ^ (tz M - n - 1)) := by rw [← Nat.pow_succ', ← Nat.pow_add]; congr 1; omega
  rw [this, Nat.mul_assoc, Nat.mul_div_cancel_left _ (Nat.two_pow_pos n), Nat.mul_assoc]
  omega
theorem tz_lt {M : Nat} (h : M ≠ 0) : tz M / 32 < (words M).length := by
  have h1 := val_lt (words_isW M)
  rw [val_words] at h1
  obtain ⟨h2, h3⟩ := tz_spec h
  have h4 : 2 ^ tz M ≤ M := by
    have h30 : 1 ≤ M / 2 ^ tz M := by
      generalize M / 2 ^ tz M = q at h3
      omega
    have : 2 ^ tz M * 1 ≤ 2 ^ tz M * (M / 2 ^ tz M) := Nat.mul_le_mul_left _ h30
    omega
  have h5 : 2 ^ tz M < 2 ^ (32 * (words M).length) := by rw [Nat.pow_mul]; exact Nat.lt_of_le_of_lt h4 h1
  have := (Nat.pow_lt_pow_iff_right (by decide)).1 h5
  omega
theorem norm_keep {w3 w4 : World} {b0 B n c : Nat} {o : Obj} (hg : w3.grownBy w4 (Value.slice (some ⟨B, 0, none⟩) n c).ownBlock) (hb : b0 < B) (h : w3.heap[b0]? = some o) : w4.heap[b0]? = some o := by
  rw [hg.block b0 (Array.getElem?_eq_some_iff.1 h).1 (fun e => by
    have : b0 = B := by
      have h2 : (Value.slice (some ⟨B, 0, none⟩) n c).ownBlock = some B ∨ (Value.slice (some ⟨B, 0, none⟩) n c).ownBlock = none := by
        exact .inl rfl
      rcases h2 with h2 | h2
      · rw [h2] at e; injection e
      · rw [h2] at e; cases e
    omega)]
  exact h
set_option maxHeartbeats 4000000 in
theorem cnorm_calls (A : Option Addr) (c : Nat) (l : List Nat) (e : Int) (w : World) (hc : l.length ≤ c) (hcm : c ≤ maxLen) (hl : l.length ≤ 1048576) (hw : IsW l) (he : -16777216 ≤ e ∧ e ≤ 16777216) (hm : val l ≠ 0) (h : Ws w w.heap.size A l) :
    Calls Tryz.prog 23 #[.bool false, .slice A l.length c, .int .i64 e] w fun en w' => NOne w (val l / 2 ^ tz (val l)) (e + tz (val l)) en w' := by
  obtain ⟨i0, hi0, hz0, hz1, hz2⟩ := info_parts wordInfo
  have HT : Hid (∀ W : World, w.grownBy W none → Calls Tryz.prog 52 #[.slice A l.length c] W fun e w' => e = .returned (.slice A (words (val l)).length c) ∧ Ws w' w'.heap.size A (words (val l)) ∧ (words (val l)).length ≤ c ∧ w' = W) := fun W hg =>
    (ctrim_calls A c _ l W hc (by omega) hw (h.grown0 (Nat.le_refl _) hg)).mono fun e w' hx => by
      obtain ⟨h1, h2, h3, rfl⟩ := hx
      exact ⟨h1, h2, h3, rfl⟩
  have hlw : (words (val l)).length ≤ l.length := words_len_lt (val_lt hw)
  obtain ⟨M, hM⟩ : ∃ M, M = val l := ⟨_, rfl⟩
  rw [← hM] at HT hm hlw ⊢
  have hlz := lenD M
  rw [decide_eq_false hm] at hlz
  have htz := tz_lt hm
  have HB := Lib.hid (fun n (hn : n < tz M) => tz_bit hm hn)
  have HO := Lib.hid (tz_spec hm).2
  obtain ⟨t, ht⟩ : ∃ t, t = tz M := ⟨_, rfl⟩
  rw [← ht] at htz HB HO ⊢
  have hb1 : (w.alloc (.cells #[.bool false, .slice none 0 0, .int .i64 0] 30)).heap[w.heap.size]? = _ := heap_at rfl
  obtain ⟨b0, hb0⟩ : ∃ b0, b0 = w.heap.size := ⟨_, rfl⟩
  clear hM ht h hw hc hm
  go_enter Tryz.func23, Tryz.ntmps23
  go_upto_region 1 with fail
  obtain ⟨w1, hw1⟩ : ∃ w1, w1 = w.alloc (.cells #[.bool false, .slice none 0 0, .int .i64 0] 30) := ⟨_, rfl⟩
  have hg1 : w.grownBy w1 none := by rw [hw1]; exact grown_alloc _ _ _
  have hs1 : w1.heap.size = b0 + 1 := by rw [hw1, hb0]; simp
  rw [← hw1, ← hb0] at hb1
  rw [← hw1, ← hb0]
  clear hw1
  have HG1 := Lib.hid hg1; have HB1 := Lib.hid hb1; have HS1 := Lib.hid hs1
  clear hg1 hb1 hs1
  go_wp2_with fail
  refine (HT.out _ HG1.out).mono ?_
  rintro e1 w1' ⟨rfl, hW, hcl, rfl⟩
  obtain ⟨ad, rfl, hab, hcell⟩ : ∃ ad, A = some ad ∧ ad.block < w1'.heap.size ∧ ∀ i (hi : i < (words M).length), w1'.cell? (ad.add i) = some (.int .u32 ((words M)[i] : Nat)) := by
    obtain ⟨ad, e, hb, _⟩ := hW.at_ 0 (by omega)
    refine ⟨ad, e, hb, fun i hi => ?_⟩
    obtain ⟨ad', e', _, hc'⟩ := hW.at_ i hi
    rw [e] at e'
    injection e' with e'
    rw [e']
    exact hc'
  have HLE := Lib.hid (fun n => words_len_lt (n := M / 2 ^ n) (k := (words M).length) (Nat.lt_of_le_of_lt (Nat.div_le_self _ _) (by have := val_lt (words_isW M); rwa [val_words] at this)))
  have HC := Lib.hid hcell
  have HD := Lib.hid (cdown_calls (some ad) c M t w1' hcl hcm (by omega) htz hW)
  have HL : Hid (∀ i (hi : i < (words M).length), ∃ x, x < 4294967296 ∧ x = M / 4294967296 ^ i % 4294967296 ∧ w1'.cell? (ad.add i) = some (.int .u32 (x : Nat))) := fun i hi =>
    ⟨_, words_isW M _ (List.getElem_mem hi), words_at hi, HC.out i hi⟩
  obtain ⟨L, hL⟩ : ∃ L, L = (words M).length := ⟨_, rfl⟩
  simp only [← hL] at hlz HD HL HLE hlw htz ⊢
  have HB0 := Lib.hid hb0
  clear hW hcell HC HT hL hb0
  go_wp2_with fail
  go_loopw [7] (fun v7 wr => ∃ n : Nat, n ≤ t ∧ v7 = .int .i64 n ∧ w1' = wr) (fun v7 _ => t - (intOf v7).toNat)
  case atStart => exact ⟨0, by omega, rfl, rfl⟩
  case round =>
    obtain ⟨n, hn, rfl, rfl⟩ := hrel
    obtain ⟨x, hx, hxe, g1⟩ := HL.out (n / 32) (by omega)
    by_cases hlt : n < t
    · have hp : 0 = x / 2 ^ (n % 32) % 2 := by rw [hxe, bit_word, HB.out n hlt]
      have hand := and1 hx hp
      clear hxe hp
      go_wp2
      exact ⟨⟨n + 1, by omega, by go_num, by first | rfl | trivial⟩, by simp [intOf]; omega⟩
    · obtain rfl : n = t := by omega
      have hp : 1 = x / 2 ^ (n % 32) % 2 := by rw [hxe, bit_word, HO.out]
      have hand := and1 hx hp
      clear hxe hp hlt
      go_wp2_with fail
      refine HD.out.mono ?_
      rintro e2 w2 ⟨A2, c2, b2, rfl, hc2, hcm2, hW2, hbw⟩
      have hne : M / 2 ^ n ≠ 0 := by have := HO.out; intro h0; rw [h0] at this; cases this
      have hlo : (words (M / 2 ^ n)).length ≤ L ∧ L ≤ 1048576 := ⟨by have := HLE.out n; omega, by omega⟩
      obtain ⟨m, hmm⟩ : ∃ m, m = M / 2 ^ n := ⟨_, rfl⟩
      rw [← hmm] at hW2 hc2 hlo hne
      have HM := Lib.hid hmm
      have hmp : 0 < (words m).length := by
        refine Nat.pos_of_ne_zero fun e => hne ?_
        have := val_words m
        rw [List.eq_nil_of_length_eq_zero e] at this
        exact this.symm
      obtain ⟨ad2, rfl, hab2, _⟩ := hW2.at_ 0 hmp
      have hcells : ∀ (W : World) (hg : w2.grownBy W none) (j : Nat) (u : Value), (uCells (words m))[j]? = some u → W.cell? (ad2.add j) = some u := fun W hg j u hu => by
        have hj : j < (words m).length := by
          rw [← uCells_len (words m)]
          exact (List.getElem?_eq_some_iff.1 hu).1
        obtain ⟨ad', e, hb, hcl⟩ := hW2.2 (by omega)
        injection e with e
        subst e
        exact ((below_of_grown0 hg).cell (by rw [addr_block]; exact hb)).trans (hcl j u hu)
      have HC := Lib.hid hcells
      have hg2 := grown_of_below hbw none
      have r2 := heap_grown HB1.out hg2
      have hs2 := hg2.size
      have HG2 := Lib.hid hg2; have HR2 := Lib.hid r2; have HS2 := Lib.hid hs2
      rw [← hmm]
      clear hcells hW2 hbw g1 hx hand hne hmm hg2 r2 hs2
      go_wp2_with (first | (at_make; refine wpList_make_own _ (by rfl) _ _ 28 (by rfl) w2.heap.size 51 i0 (.int .u32 0) 1 Tryz.underlying28 hi0 hz0 hz1 .i64 .i64 _ 0 (by rfl) (by rfl) (by omega) (by rw [hz2]; omega) (by unfold maxLen; omega) (Nat.le_refl _) ?_; intro w3 hown3 hgrow3; have hs3 := hgrow3.size) | (at_builtin; (refine wpList_append_own_at _ (by rfl) (.tmp 36) (.tmp 37) 28 (by rfl) w2.heap.size 51 i0 _ 1 4 Tryz.underlying28 hi0 hz0 hz1 hz2 rfl (by omega) _ 0 [] (by rfl) hown3 ad2 (words m).length c2 (uCells (words m)) (by rfl) (by rw [uCells_len, Nat.mul_one]) (HC.out _ hgrow3) (by intro u hu; simp only [uCells, List.mem_map] at hu; obtain ⟨x, _, rfl⟩ := hu; rfl) (by simp only [maxLen]; omega) (by omega) (by omega) ?_); intro v3 w4 hown1 hgrow hnil hat; obtain ⟨X, cx, rfl, hcx, hcm3, hX⟩ := own_slice1 (show w4.ownsRow w2.heap.size 51 1 v3 (words m).length (uCells (words m)) by simpa using hown1); have r4 := norm_keep hgrow (by have := HS1.out; have := HS2.out; omega) (heap_grown HR2.out hgrow3); have hT4 : Three w4 b0 := ⟨_, _, _, _, _, _, r4⟩; obtain ⟨q1, q2, q3, q4, q5, z0, z1, z2, z3, z4, z5⟩ := hT4.open))
      have hg4 : w.grownBy w4 none := grown_res (grown_trans HG1.out (grown_trans HG2.out hgrow3)) (Nat.le_trans HG1.out.size HG2.out.size) hgrow
      have HD5 := DOne.store (w := w) (neg := false) (m := m) (e := e + n) hT4 hcx hcm3 (show Ws w4 w4.heap.size X (words m) from hX) (below_of_grown0 hg4) (by have := HB0.out; omega)
      obtain ⟨v5, e5, h5, h6⟩ := HD5
      have hq : ∀ k, k = m → NOne w k (e + n) _ _ := fun k hk => ⟨v5, e5, by rw [hk]; exact h5, grown_of_below h6 none⟩
      have HD := Lib.hid (hq _ HM.out.symm)
      clear hq h5 h6 hg4
      refine bodyPost_ret (v := .agg #[.bool false, .slice X (words m).length cx, .int .i64 (e + n)]) ?_ rfl HD.out
      simp [results, Tryz.results23, go_sem, *]
end Go.Proofs.YtjbdadhggejoiaaGreatDoor

namespace Go.Proofs.YtjbdadhggejoiaaGreatDoor
open Go.RowKit
set_option maxRecDepth 100000
attribute [local go_sem] run_frombits run_bits store_f store_c

theorem ofF_pos {x : Nat} (h0 : 0 < x) (h : x < 9218868437227405312) : fm x ≠ 0 ∧ (ofF x).neg = false ∧ (ofF x).m = fm x / 2 ^ tz (fm x) ∧ (ofF x).e = fe x + tz (fm x) := by
  have h1 : fm x ≠ 0 := by unfold fm; split <;> omega
  have h2 : fneg x = false := by unfold fneg; rw [beq_eq_false_iff_ne]; omega
  have h3 : sg (fneg x) (fm x) = (fm x : Int) := by rw [h2]; rfl
  refine ⟨h1, ?_⟩
  unfold ofF dnorm
  rw [h3, if_neg (by omega)]
  refine ⟨by simp, rfl, rfl⟩
theorem two_words (M : Nat) (h : M < 18446744073709551616) : val [M % 4294967296, M / 4294967296] = M ∧ IsW [M % 4294967296, M / 4294967296] := by
  refine ⟨by simp [val]; omega, fun x hx => ?_⟩
  simp at hx
  omega
theorem ws_two {w : World} {b t : Nat} {x y : Nat} (h : w.heap[b]? = some (.cells #[.int .u32 (x : Int), .int .u32 (y : Int)] t (0, 0))) : Ws w w.heap.size (some ⟨b, 0, none⟩) [x, y] := by
  refine ⟨rfl, fun _ => ⟨⟨b, 0, none⟩, rfl, (Array.getElem?_eq_some_iff.1 h).1, fun j u hu => ?_⟩⟩
  match j, hu with
  | 0, hu => rw [← hu]; exact cell_of_row w b 0 _ t _ h
  | 1, hu => rw [← hu]; exact cell_of_row w b 1 _ t _ h
set_option maxHeartbeats 4000000 in
theorem cfloat_calls (x : Nat) (w : World) (h0 : 0 < x) (h : x < 9218868437227405312) :
    Calls Tryz.prog 6 #[.float .f64 x] w fun en w' => NOne w (ofF x).m (ofF x).e en w' := by
  obtain ⟨hm0, _, ho1, ho2⟩ := ofF_pos h0 h
  rw [ho1, ho2]
  have hF : Fin64 x := ⟨by omega, by omega⟩
  have hfe := fe_bd hF
  have hfm := fm_lt x
  have hx := hF.1
  have hb1 := and_frac hF.1
  obtain ⟨fr, hfr⟩ : ∃ fr, fr = x % 4503599627370496 := ⟨_, rfl⟩
  obtain ⟨y, hy⟩ : ∃ y, y = x / 4503599627370496 := ⟨_, rfl⟩
  have hb2 := and_expo (y := y) (by omega)
  obtain ⟨ex, hex⟩ : ∃ ex, ex = y % 2048 := ⟨_, rfl⟩
  have hxy : (x : Int) / 4503599627370496 = (y : Int) := by omega
  have hb3 := or_hidden (y := fr) (by omega)
  rw [← hfr] at hb1
  rw [← hex] at hb2
  have hyb : y < 4096 := by omega
  have hexb : ex < 2048 := by omega
  have hfrb : fr < 4503599627370496 := by omega
  have hmz : ex = 0 → fm x = fr ∧ fe x = -1074 := fun e => by unfold fm fe; rw [← hy, ← hex, if_pos e, if_pos e, ← hfr]; exact ⟨rfl, rfl⟩
  have hmn : ex ≠ 0 → fm x = 4503599627370496 + fr ∧ fe x = (ex : Int) - 1075 := fun e => by unfold fm fe; rw [← hy, ← hex, if_neg e, if_neg e, ← hfr]; exact ⟨rfl, rfl⟩
  have hsg : ((x : Int) / 9223372036854775808 == 1) = false := by rw [beq_eq_false_iff_ne]; omega
  obtain ⟨M, hM⟩ : ∃ M, M = fm x := ⟨_, rfl⟩
  obtain ⟨E, hE⟩ : ∃ E, E = fe x := ⟨_, rfl⟩
  rw [← hM] at hmz hmn hfm hm0 ⊢
  rw [← hE] at hmz hmn hfe ⊢
  have HZ := Lib.hid (⟨hmz, hmn⟩ : (ex = 0 → M = fr ∧ E = -1074) ∧ (ex ≠ 0 → M = 4503599627370496 + fr ∧ E = (ex : Int) - 1075))
  clear hfr hy hex hM hE hmz hmn ho1 ho2 hF h h0
  go_enter Tryz.func6, Tryz.ntmps6
  go_upto_if 15 with fail
  go_cut [4, 5] (fun v4 v5 wx => v5 = .int .u64 M ∧ v4 = .int .i64 (E + 1075) ∧ wx = w.alloc (.cells #[.bool false, .slice none 0 0, .int .i64 0] 30))
  case first =>
    by_cases h0 : ex = 0
    · obtain ⟨e1, e2⟩ := HZ.out.1 h0
      have hq : ((ex : Int) == 0) = true := by rw [h0]; rfl
      clear h0
      go_wp2
      go_meet
      exact ⟨by rw [e1], by rw [e2]; rfl, rfl⟩
    · obtain ⟨e1, e2⟩ := HZ.out.2 h0
      have hq : ((ex : Int) == 0) = false := by rw [beq_eq_false_iff_ne]; omega
      clear h0
      go_wp2
      go_meet
      exact ⟨by rw [e1]; go_num, by rw [e2]; go_num, rfl⟩
  case rest =>
    obtain ⟨rfl, rfl, rfl⟩ := hcut
    have hEe : E + 1075 - 1075 = E := by omega
    have hMb : M < 18446744073709551616 := by omega
    go_wp2_with fail
    obtain ⟨tw1, tw2⟩ := two_words M hMb
    have hn := fun W hW => cnorm_calls (some ⟨w.heap.size + 1, 0, none⟩) 2 [M % 4294967296, M / 4294967296] E W (by simp) (by decide) (by simp) tw2 (by omega) (by rw [tw1]; exact hm0) hW
    rw [tw1] at hn
    obtain ⟨m, hm⟩ : ∃ m, m = M / 2 ^ tz M := ⟨_, rfl⟩
    obtain ⟨e, he⟩ : ∃ e, e = E + tz M := ⟨_, rfl⟩
    rw [← hm, ← he] at hn
    refine (hn _ (ws_two (t := 51) (by rw [Int.natCast_emod, Int.natCast_ediv]; exact heap_at (by simp)))).mono ?_
    rintro e1 w5 ⟨v5, rfl, ⟨A5, c5, rfl, hc5, hcm5, hW5⟩, hb5⟩
    unfold NV
    have hg0 : w.grownBy w5 none := grown_trans (grown_trans (grown_alloc _ _ _) (grown_alloc _ _ _)) hb5
    have hT5 : Three w5 w.heap.size := ⟨_, _, _, _, _, _, heap_grown (heap_grown (heap_at rfl) (grown_alloc _ _ _)) hb5⟩
    obtain ⟨q1, q2, q3, q4, q5, z0, z1, z2, z3, z4, z5⟩ := hT5.open
    obtain ⟨v6, e6, h5, h6⟩ := DOne.store (w := w) (neg := false) (m := m) (e := e) hT5 hc5 hcm5 hW5 (below_of_grown0 hg0) (Nat.le_refl _)
    have hq : ∀ k f, k = m → f = e → NOne w k f _ _ := fun k f hk hf => ⟨v6, e6, by rw [hk, hf]; exact h5, grown_of_below h6 none⟩
    have HD := Lib.hid (hq _ _ hm.symm he.symm)
    clear hq h5 h6 hg0 hb5 hW5 hn tw1 tw2 hm he
    go_wp2
    refine bodyPost_ret (v := .agg #[.bool false, .slice A5 (words m).length c5, .int .i64 e]) ?_ rfl HD.out
    simp [results, Tryz.results6, go_sem, *]
end Go.Proofs.YtjbdadhggejoiaaGreatDoor

namespace Go.Proofs.YtjbdadhggejoiaaGreatDoor
open Go.RowKit
set_option maxRecDepth 100000

set_option maxHeartbeats 4000000 in
theorem ctimes_calls (v v2 : Value) (m m2 : Nat) (e e2 : Int) (w : World) (hv : NR w v false m e) (hv2 : NR w v2 false m2 e2) (hm : m ≠ 0) (hm2 : m2 ≠ 0) (hl : (words m).length ≤ 1048576) (hl2 : (words m2).length ≤ 1048576) (hl3 : (words (m * m2)).length ≤ 1048576) (he : -8388608 ≤ e ∧ e ≤ 8388608) (he2 : -8388608 ≤ e2 ∧ e2 ≤ 8388608) :
    Calls Tryz.prog 12 #[v, v2] w fun en w' => NOne w (m * m2 / 2 ^ tz (m * m2)) (e + e2 + tz (m * m2)) en w' := by
  obtain ⟨A, c, rfl, hc, hcm, hW⟩ := hv
  obtain ⟨A2, c2, rfl, hc2, hcm2, hW2⟩ := hv2
  have hP := fun W (h1 : Ws W W.heap.size A (words m)) (h2 : Ws W W.heap.size A2 (words m2)) => cproduct_calls A A2 c c2 m m2 W hc hc2 (by omega) (by omega) h1 h2
  have hP0 : m * m2 ≠ 0 := Nat.mul_ne_zero hm hm2
  obtain ⟨P, hPe⟩ : ∃ P, P = m * m2 := ⟨_, rfl⟩
  simp only [← hPe] at hP hP0 hl3 ⊢
  have hn := fun A c W hc hcm h => cnorm_calls A c (words P) (e + e2) W hc hcm hl3 (words_isW P) (by omega) (by rw [val_words]; exact hP0) h
  simp only [val_words] at hn
  obtain ⟨q, hq⟩ : ∃ q, q = P / 2 ^ tz P := ⟨_, rfl⟩
  obtain ⟨s, hs⟩ : ∃ s, s = e + e2 + tz P := ⟨_, rfl⟩
  simp only [← hq, ← hs] at hn ⊢
  obtain ⟨L, hL⟩ : ∃ L, L = (words m).length := ⟨_, rfl⟩
  obtain ⟨L2, hL2⟩ : ∃ L, L = (words m2).length := ⟨_, rfl⟩
  unfold NV
  simp only [← hL, ← hL2] at hP ⊢
  have hwr : IntKind.i64.wrap (e + e2) = e + e2 := wrap_in (by omega) (by omega)
  have HP := Lib.hid hP
  have HN := Lib.hid hn
  have HA1 := Lib.hid hW
  have HA2 := Lib.hid hW2
  clear hL hL2 hW hW2 hc hc2 hcm hcm2 hP hn hq hs hPe hP0 hl hl2 hl3 hm hm2 he he2
  go_enter Tryz.func12, Tryz.ntmps12
  go_upto_region 1 with fail
  obtain ⟨w1, hwe⟩ : ∃ w1, w1 = ((w.alloc (.cells #[.bool false, .slice A L c, .int .i64 e] 30)).alloc (.cells #[.bool false, .slice A2 L2 c2, .int .i64 e2] 30)).alloc (.cells #[.bool false, .slice none 0 0, .int .i64 0] 30) := ⟨_, rfl⟩
  obtain ⟨r0, r1, r2, hw1, hsz⟩ := box3 (w := w) (w1 := w1) (by rw [hwe]; exact grown_refl _)
  rw [← hwe]
  clear hwe
  obtain ⟨x0, x1, x2⟩ := row3 r0
  obtain ⟨x3, x4, x5⟩ := row3 r1
  have T0 : Hid (Three w1 (w.heap.size + 1 + 1)) := ⟨_, _, _, _, _, _, r2⟩
  have HW1 := Lib.hid hw1
  have HM1 := Lib.hid (HA1.out.grown0 (Nat.le_refl _) hw1)
  have HM2 := Lib.hid (HA2.out.grown0 (Nat.le_refl _) hw1)
  have hrlt : w.heap.size + 1 + 1 < w1.heap.size := by omega
  have HR2 := Lib.hid T0.out.rec'
  clear r0 r1 r2 hw1
  have K6 : Hid (∀ w' : World, w1.grownBy w' (some (w.heap.size + 1 + 1)) → Three w' (w.heap.size + 1 + 1) → w'.cell? ⟨w.heap.size, 0, none⟩ = some (.bool false) ∧ w'.cell? ⟨w.heap.size, 1, none⟩ = some (.slice A L c) ∧ w'.cell? ⟨w.heap.size, 2, none⟩ = some (.int .i64 e) ∧
      w'.cell? ⟨w.heap.size + 1, 0, none⟩ = some (.bool false) ∧ w'.cell? ⟨w.heap.size + 1, 1, none⟩ = some (.slice A2 L2 c2) ∧ w'.cell? ⟨w.heap.size + 1, 2, none⟩ = some (.int .i64 e2) ∧ w1.grownBy w' (some (w.heap.size + 1 + 1)) ∧ Three w' (w.heap.size + 1 + 1)) := fun w' h h3 =>
    ⟨cell_grown h (by omega) (by omega) x0, cell_grown h (by omega) (by omega) x1, cell_grown h (by omega) (by omega) x2, cell_grown h (by omega) (by omega) x3, cell_grown h (by omega) (by omega) x4, cell_grown h (by omega) (by omega) x5, h, h3⟩
  have TD : Hid (Three w1.drew (w.heap.size + 1 + 1)) := Lib.hid (T0.out)
  have G0 : Hid (w1.grownBy w1.drew (some (w.heap.size + 1 + 1))) := ⟨rfl, rfl, rfl, Nat.le_refl _, fun _ _ _ => rfl⟩
  go_region_held3 (fun w' : World => w'.cell? ⟨w.heap.size, 0, none⟩ = some (.bool false) ∧ w'.cell? ⟨w.heap.size, 1, none⟩ = some (.slice A L c) ∧ w'.cell? ⟨w.heap.size, 2, none⟩ = some (.int .i64 e) ∧
      w'.cell? ⟨w.heap.size + 1, 0, none⟩ = some (.bool false) ∧ w'.cell? ⟨w.heap.size + 1, 1, none⟩ = some (.slice A2 L2 c2) ∧ w'.cell? ⟨w.heap.size + 1, 2, none⟩ = some (.int .i64 e2) ∧ w1.grownBy w' (some (w.heap.size + 1 + 1)) ∧ Three w' (w.heap.size + 1 + 1))
    (first
      | with_reducible exact K6.out _ (grown_trans hG5 (hT5.set _ _ _ _ _).2) (hT5.set _ _ _ _ _).1
      | with_reducible exact K6.out _ G0.out TD.out
      | with_reducible exact K6.out _ hG5 hT5
      | (go_split_ands; with_reducible exact K6.out _ (grown_trans (by assumption) (grown_some hgl)) (Three.grown (by assumption) hgl (by simp))))
    (first
      | (go_at_call 33; go_split_ands; refine (HP.out _ (HM1.out.grownR (Nat.le_refl _) (by assumption) HR2.out) (HM2.out.grownR (Nat.le_refl _) (by assumption) HR2.out)).mono ?_; rintro e1 w2 ⟨A3, c3, rfl, hc3, hcm3, hW3, hb3⟩; have hgl := grown_of_below hb3 none; have HW3 := Lib.hid hW3; clear hW3)
      | (go_at_call 23; go_split_ands; refine (HN.out _ _ _ hc3 hcm3 HW3.out).mono ?_; rintro e1 w5 ⟨v5, rfl, ⟨A5, c5, rfl, hc5, hcm5, hW5⟩, hb5⟩; unfold NV; have hG5 := grown_trans (by assumption) (grown_some (r := some (w.heap.size + 1 + 1)) hb5); have hT5 := Three.grown (by assumption) hb5 (by simp); obtain ⟨q1, q2, q3, q4, q5, y0, y1, y2, y3, y4, y5⟩ := hT5.open; have HW5 := Lib.hid hW5; clear hW5 hgl))
  all_goals
    have HB5 : Hid (Below w.heap.size w w5) := (below_of_grown0 HW1.out).trans (below_of_grown hG5 (by omega) hrlt)
    obtain ⟨v6, e6, h5, h6⟩ := DOne.store (w := w) (neg := false) (m := q) (e := s) hT5 hc5 hcm5 HW5.out HB5.out (by omega)
    have HD : Hid (NOne w q s _ _) := ⟨v6, e6, h5, grown_of_below h6 none⟩
    go_wp2
    refine bodyPost_ret (v := .agg #[.bool false, .slice A5 (words q).length c5, .int .i64 s]) ?_ rfl HD.out
    simp [results, Tryz.results12, go_sem, *]
end Go.Proofs.YtjbdadhggejoiaaGreatDoor

namespace Go.Proofs.YtjbdadhggejoiaaGreatDoor
open Go.RowKit
set_option maxRecDepth 100000

set_option maxHeartbeats 4000000 in
theorem cplus_calls (v v2 : Value) (m m2 k k2 : Nat) (e e2 E : Int) (w : World) (hv : NR w v false m e) (hv2 : NR w v2 false m2 e2) (hm : m ≠ 0) (hm2 : m2 ≠ 0) (hE : min e e2 = E) (hk : e - E = k) (hk2 : e2 - E = k2) (hl3 : (words (m * 2 ^ k + m2 * 2 ^ k2)).length ≤ 1048576) (he : -8388608 ≤ e ∧ e ≤ 8388608) (he2 : -8388608 ≤ e2 ∧ e2 ≤ 8388608) :
    Calls Tryz.prog 10 #[v, v2] w fun en w' => NOne w ((m * 2 ^ k + m2 * 2 ^ k2) / 2 ^ tz (m * 2 ^ k + m2 * 2 ^ k2)) (E + tz (m * 2 ^ k + m2 * 2 ^ k2)) en w' := by
  obtain ⟨A, c, rfl, hc, hcm, hW⟩ := hv
  obtain ⟨A2, c2, rfl, hc2, hcm2, hW2⟩ := hv2
  have hz := lenD m
  have hz2 := lenD m2
  rw [decide_eq_false hm] at hz
  rw [decide_eq_false hm2] at hz2
  obtain ⟨X, hX⟩ : ∃ X, X = m * 2 ^ k := ⟨_, rfl⟩
  obtain ⟨Y, hY⟩ : ∃ Y, Y = m2 * 2 ^ k2 := ⟨_, rfl⟩
  have hX0 : X ≠ 0 := by rw [hX]; exact Nat.mul_ne_zero hm (Nat.pos_iff_ne_zero.1 (Nat.two_pow_pos _))
  have hmX : m ≤ X := by rw [hX]; exact Nat.le_mul_of_pos_right _ (Nat.two_pow_pos _)
  have hmY : m2 ≤ Y := by rw [hY]; exact Nat.le_mul_of_pos_right _ (Nat.two_pow_pos _)
  rw [← hX, ← hY] at hl3 ⊢
  have hlX := words_len_le (show X ≤ X + Y by omega)
  have hlY := words_len_le (show Y ≤ X + Y by omega)
  have hlm := words_len_le hmX
  have hlm2 := words_len_le hmY
  have hu1 := fun W (h : Ws W W.heap.size A (words m)) => cup_calls A c m k W hc (by omega) (by omega) h
  have hu2 := fun W (h : Ws W W.heap.size A2 (words m2)) => cup_calls A2 c2 m2 k2 W hc2 (by omega) (by omega) h
  rw [← hX] at hu1
  rw [← hY] at hu2
  have hs := fun A3 A4 c3 c4 W (g1 : (words X).length ≤ c3) (g2 : (words Y).length ≤ c4) h1 h2 => csum_calls A3 A4 c3 c4 X Y W g1 g2 (by omega) (by omega) h1 h2
  have hk3 : IntKind.i64.wrap (e - E) = (k : Int) := by rw [hk]; exact wrap_in (by omega) (by omega)
  have hk4 : IntKind.i64.wrap (e2 - E) = (k2 : Int) := by rw [hk2]; exact wrap_in (by omega) (by omega)
  obtain ⟨P, hP⟩ : ∃ P, P = X + Y := ⟨_, rfl⟩
  rw [← hP] at hl3
  simp only [← hP] at hs ⊢
  have hn := fun A c W hc hcm h => cnorm_calls A c (words P) E W hc hcm hl3 (words_isW P) (by omega) (by rw [val_words]; omega) h
  simp only [val_words] at hn
  obtain ⟨q, hq⟩ : ∃ q, q = P / 2 ^ tz P := ⟨_, rfl⟩
  obtain ⟨s, hs'⟩ : ∃ s, s = E + tz P := ⟨_, rfl⟩
  simp only [← hq, ← hs'] at hn ⊢
  obtain ⟨L, hL⟩ : ∃ L, L = (words m).length := ⟨_, rfl⟩
  obtain ⟨L2, hL2⟩ : ∃ L, L = (words m2).length := ⟨_, rfl⟩
  unfold NV
  simp only [← hL] at hu1 hz ⊢
  simp only [← hL2] at hu2 hz2 ⊢
  have HU1 := Lib.hid hu1; have HU2 := Lib.hid hu2; have HS := Lib.hid hs; have HN := Lib.hid hn
  have HA1 := Lib.hid hW
  have HA2 := Lib.hid hW2
  clear hL hL2 hW hW2 hc hc2 hcm hcm2 hu1 hu2 hs hn hq hs' hP hX0 hlX hlY hlm hlm2 hmX hmY hX hY hl3 hm hm2 he he2 hk hk2
  go_enter Tryz.func10, Tryz.ntmps10
  go_upto_region 1 with fail
  obtain ⟨w1, hwe⟩ : ∃ w1, w1 = ((w.alloc (.cells #[.bool false, .slice A L c, .int .i64 e] 30)).alloc (.cells #[.bool false, .slice A2 L2 c2, .int .i64 e2] 30)).alloc (.cells #[.bool false, .slice none 0 0, .int .i64 0] 30) := ⟨_, rfl⟩
  obtain ⟨r0, r1, r2, hw1, hsz⟩ := box3 (w := w) (w1 := w1) (by rw [hwe]; exact grown_refl _)
  rw [← hwe]
  clear hwe
  obtain ⟨x0, x1, x2⟩ := row3 r0
  obtain ⟨x3, x4, x5⟩ := row3 r1
  have HR0 := Lib.hid r0; have HR1 := Lib.hid r1
  have T0 : Hid (Three w1 (w.heap.size + 1 + 1)) := ⟨_, _, _, _, _, _, r2⟩
  have HW1 := Lib.hid hw1
  have HM1 := Lib.hid (HA1.out.grown0 (Nat.le_refl _) hw1)
  have HM2 := Lib.hid (HA2.out.grown0 (Nat.le_refl _) hw1)
  clear r0 r1 r2 hw1
  go_wp2_with fail
  refine (HU1.out _ HM1.out).mono ?_
  rintro e3 wa ⟨A3, c3, rfl, hc3, hcm3, hW3, hb3⟩
  have hg := grown_of_below hb3 none
  obtain ⟨x0, x1, x2⟩ := row3 (heap_grown HR0.out hg)
  obtain ⟨x3, x4, x5⟩ := row3 (heap_grown HR1.out hg)
  have HGa := Lib.hid hg
  have HX3 := Lib.hid hW3
  have HMa := Lib.hid (HM2.out.grown0 (Nat.le_refl _) hg)
  clear hg hb3 hW3
  go_wp2_with fail
  refine (HU2.out _ HMa.out).mono ?_
  rintro e3 wb ⟨A4, c4, rfl, hc4, hcm4, hW4, hb4⟩
  have hg := grown_of_below hb4 none
  have hg2 := grown_trans HGa.out hg
  obtain ⟨x0, x1, x2⟩ := row3 (heap_grown HR0.out hg2)
  obtain ⟨x3, x4, x5⟩ := row3 (heap_grown HR1.out hg2)
  have T1 := Lib.hid (Three.grown T0.out hg2 (by simp))
  have HY4 := Lib.hid hW4
  have HX4 := Lib.hid (HX3.out.grown0 (Nat.le_refl _) hg)
  have hrlt : w.heap.size + 1 + 1 < wb.heap.size := by have := hg2.size; omega
  have HWb := Lib.hid (grown_trans HW1.out hg2)
  have HR2 := Lib.hid T1.out.rec'
  clear hg hg2 hb4 hW4 HR0 HR1
  have K6 : Hid (∀ w' : World, wb.grownBy w' (some (w.heap.size + 1 + 1)) → Three w' (w.heap.size + 1 + 1) → w'.cell? ⟨w.heap.size, 0, none⟩ = some (.bool false) ∧ wb.grownBy w' (some (w.heap.size + 1 + 1)) ∧ Three w' (w.heap.size + 1 + 1)) := fun w' h h3 =>
    ⟨cell_grown h (by omega) (by omega) x0, h, h3⟩
  have TD : Hid (Three wb.drew (w.heap.size + 1 + 1)) := Lib.hid (T1.out)
  have G0 : Hid (wb.grownBy wb.drew (some (w.heap.size + 1 + 1))) := ⟨rfl, rfl, rfl, Nat.le_refl _, fun _ _ _ => rfl⟩
  go_upto_region 9 with fail
  go_region_held3 (fun w' : World => w'.cell? ⟨w.heap.size, 0, none⟩ = some (.bool false) ∧ wb.grownBy w' (some (w.heap.size + 1 + 1)) ∧ Three w' (w.heap.size + 1 + 1))
    (first
      | with_reducible exact K6.out _ (grown_trans hG5 (hT5.set _ _ _ _ _).2) (hT5.set _ _ _ _ _).1
      | with_reducible exact K6.out _ G0.out TD.out
      | with_reducible exact K6.out _ hG5 hT5
      | (go_split_ands; with_reducible exact K6.out _ (grown_trans (by assumption) (grown_some hgl)) (Three.grown (by assumption) hgl (by simp))))
    (first
      | (go_at_call 28; go_split_ands; refine (HS.out _ _ _ _ _ hc3 hc4 (HX4.out.grownR (Nat.le_refl _) (by assumption) HR2.out) (HY4.out.grownR (Nat.le_refl _) (by assumption) HR2.out)).mono ?_; rintro e1 w2 ⟨A6, c6, rfl, hc6, hcm6, hW6, hb6⟩; have hgl := grown_of_below hb6 none; have HW6 := Lib.hid hW6; clear hW6)
      | (go_at_call 23; go_split_ands; refine (HN.out _ _ _ hc6 hcm6 HW6.out).mono ?_; rintro e1 w5 ⟨v5, rfl, ⟨A5, c5, rfl, hc5, hcm5, hW5⟩, hb5⟩; unfold NV; have hG5 := grown_trans (by assumption) (grown_some (r := some (w.heap.size + 1 + 1)) hb5); have hT5 := Three.grown (by assumption) hb5 (by simp); obtain ⟨q1, q2, q3, q4, q5, y0, y1, y2, y3, y4, y5⟩ := hT5.open; have HW5 := Lib.hid hW5; clear hW5 hgl))
  all_goals
    have HB5 : Hid (Below w.heap.size w w5) := (below_of_grown0 HWb.out).trans (below_of_grown hG5 (by omega) hrlt)
    obtain ⟨v6, e6, h5, h6⟩ := DOne.store (w := w) (neg := false) (m := q) (e := s) hT5 hc5 hcm5 HW5.out HB5.out (by omega)
    have HD : Hid (NOne w q s _ _) := ⟨v6, e6, h5, grown_of_below h6 none⟩
    go_wp2
    refine bodyPost_ret (v := .agg #[.bool false, .slice A5 (words q).length c5, .int .i64 s]) ?_ rfl HD.out
    simp [results, Tryz.results10, go_sem, *]
end Go.Proofs.YtjbdadhggejoiaaGreatDoor
