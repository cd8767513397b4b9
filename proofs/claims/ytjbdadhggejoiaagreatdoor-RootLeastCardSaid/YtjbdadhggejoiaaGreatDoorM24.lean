/- 'dyad': exact numbers: the root of a square; the floats next to a number that is one.
   'dyad': the floats next to an exact number that is one.
   'dyad': a sum of roots against a float.
   floats: the next ones, infinities, signs. -/
import Derived.Test.YtjbdadhggejoiaaGreatDoorM23
import Derived.Test.YtjbdadhggejoiaaGreatDoorM19
import Derived.Test.YtjbdadhggejoiaaGreatDoorM21

namespace Go.Proofs.YtjbdadhggejoiaaGreatDoor
open Go.RowKit
set_option maxRecDepth 100000

/-- what a call leaves that makes two exact numbers -/
def EDone2 (w : World) (x y : Ex) (en : Ending) (w' : World) : Prop := ∃ v u, en = .returned (.tuple #[v, u]) ∧ ER w' v x ∧ ER w' u y ∧ Below w.heap.size w w'

theorem EDone2.store {w w5 : World} {r q b b2 : Nat} {x y : Ex} (h2 : Duo w5 r) (h3 : Duo w5 q) (hrq : q ≠ r) (hI : IR w5 b x.z) (hJ : IR w5 b2 y.z) (hb : Below w.heap.size w w5) (hr : w.heap.size ≤ r) (hq : w.heap.size ≤ q) :
    EDone2 w x y (.returned (.tuple #[.agg #[.pointer (some ⟨b, 0, none⟩), .int .i64 x.e], .agg #[.pointer (some ⟨b2, 0, none⟩), .int .i64 y.e]])) ((((w5.setCell ⟨r, 0, none⟩ (.pointer (some ⟨b, 0, none⟩))).setCell ⟨r, 1, none⟩ (.int .i64 x.e)).setCell ⟨q, 0, none⟩ (.pointer (some ⟨b2, 0, none⟩))).setCell ⟨q, 1, none⟩ (.int .i64 y.e)) := by
  have s1 := h2.set (some ⟨b, 0, none⟩) x.e
  have h3' := h3.grown s1.2 (by intro e; injection e with e; exact hrq e.symm)
  have s2 := h3'.set (some ⟨b2, 0, none⟩) y.e
  exact ⟨_, _, rfl, ⟨b, rfl, (hI.grownR s1.2 (duo_ne h2 hI) h2.rec').grownR s2.2 (duo_ne h3 hI) h3'.rec'⟩, ⟨b2, rfl, (hJ.grownR s1.2 (duo_ne h2 hJ) h2.rec').grownR s2.2 (duo_ne h3 hJ) h3'.rec'⟩, (((hb.setCell (by exact hr) _).setCell (by exact hr) _).setCell (by exact hq) _).setCell (by exact hq) _⟩

theorem EDone2.drew {w w' : World} {x y : Ex} {en : Ending} (h : EDone2 w x y en w') : EDone2 w x y en w'.drew := by
  obtain ⟨v, u, rfl, h1, h2, h3⟩ := h
  exact ⟨v, u, rfl, h1, h2, h3.trans ⟨rfl, rfl, rfl, Nat.le_refl _, fun _ _ => rfl⟩⟩

set_option maxHeartbeats 4000000 in
theorem exroot_zero (v : Value) (x : Ex) (bits : Nat) (w : World) (hv : ER w v x) (hz : x.z = 0) :
    Calls Tryz.prog 127 #[v, .int .i64 bits] w fun en w' => EDone2 w x x en w' := by
  obtain ⟨bx, rfl, hIx⟩ := hv
  unfold EV
  have hbx := hIx.lt
  have HX := Lib.hid hIx
  have HSx := fun (W : World) (h : w.grownBy W none) => isign_calls bx x.z W (hIx.grown0 h)
  have hs0 : sgnI x.z = 0 := by rw [hz]; rfl
  rw [hs0] at HSx
  have HSx := Lib.hid HSx
  clear hIx hs0
  go_enter Tryz.func127, Tryz.ntmps127
  go_upto_region 1 with fail
  obtain ⟨w3, hw3⟩ : ∃ w3, w3 = ((w.alloc (.cells #[.pointer (some ⟨bx, 0, none⟩), .int .i64 x.e] 120)).alloc (.cells #[.pointer none, .int .i64 0] 120)).alloc (.cells #[.pointer none, .int .i64 0] 120) := ⟨_, rfl⟩
  have r0 : w3.heap[w.heap.size]? = some (.cells #[.pointer (some ⟨bx, 0, none⟩), .int .i64 x.e] 120 (0, 0)) := by rw [hw3]; exact heap_old (heap_old (heap_at rfl))
  have r1 : w3.heap[w.heap.size + 1]? = some (.cells #[.pointer none, .int .i64 0] 120 (0, 0)) := by rw [hw3]; exact heap_old (heap_at (by simp))
  have r2 : w3.heap[w.heap.size + 1 + 1]? = some (.cells #[.pointer none, .int .i64 0] 120 (0, 0)) := by rw [hw3]; exact heap_at (by simp)
  have hg3 : w.grownBy w3 none := by rw [hw3]; exact grown_trans (grown_trans (grown_alloc _ _ _) (grown_alloc _ _ _)) (grown_alloc _ _ _)
  have hsz : w.heap.size + 3 ≤ w3.heap.size := by rw [hw3]; simp
  rw [← hw3]
  obtain ⟨x0, x1⟩ := row2 r0
  have T0 : Duo w3 (w.heap.size + 1) := ⟨_, _, _, r1⟩
  have T1 : Duo w3 (w.heap.size + 1 + 1) := ⟨_, _, _, r2⟩
  obtain ⟨p1, p2, y0, y1, y2, y3⟩ := T0.open
  obtain ⟨q1, q2, z0, z1, z2, z3⟩ := T1.open
  have hIx3 := HX.out.grown0 hg3
  have HD := Lib.hid (EDone2.store (w := w) (x := x) (y := x) T0 T1 (by omega) hIx3 hIx3 (below_of_grown0 hg3) (by omega) (by omega))
  have HW1 := Lib.hid hg3
  have hlt0 : w.heap.size < w3.heap.size := by omega
  have hlt1 : w.heap.size + 1 < w3.heap.size := by omega
  have hlt2 : w.heap.size + 1 + 1 < w3.heap.size := by omega
  clear hw3 r0 r1 r2 hg3 T0 T1 hIx3
  go_wp2_with fail
  refine (HSx.out _ HW1.out).mono ?_
  rintro e1 w8 ⟨rfl, hw8⟩
  obtain rfl := hw8.symm
  go_wp2
  all_goals go_region
  all_goals go_wp2
  all_goals
    refine bodyPost_ret (v := .tuple #[.agg #[.pointer (some ⟨bx, 0, none⟩), .int .i64 x.e], .agg #[.pointer (some ⟨bx, 0, none⟩), .int .i64 x.e]]) ?_ rfl HD.out.drew
    simp [results, Tryz.results127, go_sem, *]

theorem grown_put {w w2 : World} {o : Obj} (h : (w.alloc o).grownBy w2 (some w.heap.size)) : w.grownBy w2 none ∧ w.heap.size < w2.heap.size :=
  ⟨grown_of_below (((Below.refl _ w).alloc (Nat.le_refl _) _).trans (below_of_grown h (Nat.le_refl _) (by simp))) none, by have := h.size; simp at this; omega⟩

set_option maxHeartbeats 4000000 in
theorem exroot_sq (v : Value) (n k r u : Nat) (e E : Int) (w : World) (hv : ER w v ⟨(n : Int), e⟩) (hn : n ≠ 0) (hu : (Go.bitLen n : Int) + u = 256) (hk : k = u + 1) (hodd : (e - u) % 2 = 1) (hE : e - k = 2 * E) (hr : r * r = n * 2 ^ k) (hl : (words n).length ≤ 8) (he : -16777216 ≤ e ∧ e ≤ 16777216) :
    Calls Tryz.prog 127 #[v, .int .i64 128] w fun en w' => EDone2 w ⟨(r : Int), E⟩ ⟨(r : Int), E⟩ en w' := by
  obtain ⟨bx, rfl, hIx⟩ := hv
  unfold EV
  have hIx : IR w bx (n : Int) := hIx
  have hbx := hIx.lt
  have hsg : sgnI (n : Int) = 1 := by unfold sgnI; rw [if_neg (by omega), if_neg (by omega)]
  have hb := fun (W : World) (h : w.grownBy W none) => ibits_calls bx (n : Int) W (hIx.grown0 h) (by rw [Int.natAbs_natCast]; omega)
  have HSx := fun (W : World) (h : w.grownBy W none) => isign_calls bx (n : Int) W (hIx.grown0 h)
  rw [hsg] at HSx
  simp only [Int.natAbs_natCast] at hb
  obtain ⟨bl, hbe⟩ : ∃ bl, bl = Go.bitLen n := ⟨_, rfl⟩
  simp only [← hbe] at hb hu
  have HB := Lib.hid hb
  have HSx := Lib.hid HSx
  have HX := Lib.hid hIx
  have HR := Lib.hid hr
  have hkb : k ≤ 257 := by omega
  have hEb : -8388800 ≤ E ∧ E ≤ 8388608 := by omega
  have hXl : (words (n * 2 ^ k)).length ≤ 32 := by
    have := words_len_mul (n := n) (k := k)
    omega
  have hrl : (words r).length ≤ 32 := by
    refine Nat.le_trans (words_len_le ?_) hXl
    rcases Nat.eq_zero_or_pos r with h | h
    · omega
    · rw [← hr]; exact Nat.le_mul_of_pos_right _ h
  have hX : ((n : Int) * 2 ^ k).natAbs = n * 2 ^ k := by rw [abs_mul2]; rfl
  have hmx : max 0 (256 - (bl : Int)) = (u : Int) := by omega
  have hsub : e - (k : Int) = 2 * E := hE
  have hod : ((e - (u : Int)).tmod 2 != 0) = true := by
    rw [bne_iff_ne]
    intro h
    have := Int.dvd_of_tmod_eq_zero h
    omega
  have hdv : (e - (k : Int)).tdiv 2 = E := by rw [hsub, Int.mul_tdiv_cancel_left _ (by decide)]
  have hub : u ≤ 256 := by omega
  have HK := Lib.hid hk
  have hbl : bl ≤ 256 := by omega
  clear hsub hE hodd hu hk
  clear hIx hb hsg hbe hr hn
  go_enter Tryz.func127, Tryz.ntmps127
  go_upto_region 1 with fail
  obtain ⟨w3, hw3⟩ : ∃ w3, w3 = ((w.alloc (.cells #[.pointer (some ⟨bx, 0, none⟩), .int .i64 e] 120)).alloc (.cells #[.pointer none, .int .i64 0] 120)).alloc (.cells #[.pointer none, .int .i64 0] 120) := ⟨_, rfl⟩
  have r0 : w3.heap[w.heap.size]? = some (.cells #[.pointer (some ⟨bx, 0, none⟩), .int .i64 e] 120 (0, 0)) := by rw [hw3]; exact heap_old (heap_old (heap_at rfl))
  have r1 : w3.heap[w.heap.size + 1]? = some (.cells #[.pointer none, .int .i64 0] 120 (0, 0)) := by rw [hw3]; exact heap_old (heap_at (by simp))
  have r2 : w3.heap[w.heap.size + 1 + 1]? = some (.cells #[.pointer none, .int .i64 0] 120 (0, 0)) := by rw [hw3]; exact heap_at (by simp)
  have hg3 : w.grownBy w3 none := by rw [hw3]; exact grown_trans (grown_trans (grown_alloc _ _ _) (grown_alloc _ _ _)) (grown_alloc _ _ _)
  have hsz : w.heap.size + 3 ≤ w3.heap.size := by rw [hw3]; simp
  rw [← hw3]
  obtain ⟨x0, x1⟩ := row2 r0
  have T0 : Hid (Duo w3 (w.heap.size + 1)) := ⟨_, _, _, r1⟩
  have T1 : Hid (Duo w3 (w.heap.size + 1 + 1)) := ⟨_, _, _, r2⟩
  have HX3 := Lib.hid (HX.out.grown0 hg3)
  have HW1 := Lib.hid hg3
  have K5 : Hid (∀ w' : World, w3.grownBy w' none → w'.cell? ⟨w.heap.size, 0, none⟩ = some (.pointer (some ⟨bx, 0, none⟩)) ∧ w'.cell? ⟨w.heap.size, 1, none⟩ = some (.int .i64 e)) := fun w' h =>
        ⟨cell_ext h x0, cell_ext h x1⟩
  have hlt0 : w.heap.size < w3.heap.size := by omega
  clear hw3 r0 r1 r2 hg3
  go_wp2_with fail
  refine (HSx.out _ HW1.out).mono ?_
  rintro e1 w8 ⟨rfl, hw8⟩
  obtain rfl := hw8.symm
  go_wp2_with fail
  refine (HB.out _ HW1.out).mono ?_
  rintro e1 w8 ⟨rfl, hw8⟩
  obtain rfl := hw8.symm
  go_upto_if 29 with fail
  go_cut [6] (fun v6 wx => v6 = .int .i64 k ∧ w3 = wx)
  case first =>
    go_wp2
    go_meet
    exact ⟨by rw [HK.out]; go_num, rfl⟩
  obtain ⟨rfl, rfl⟩ := hcut
  clear hmx hod
  go_wp2_with fail
  refine (ilsh_calls _ _ k (n : Int) _ (two_new w3 _) (HX3.out.grown0 (grown_alloc _ _ _)) (by rw [Int.natAbs_natCast]; omega) (by omega)).mono ?_
  rintro e1 w5 ⟨rfl, hIa, hga⟩
  obtain ⟨hg5, hs5⟩ := grown_put hga
  clear x0 x1 hga
  have HA := Lib.hid hIa
  have HG5 := Lib.hid hg5
  clear hIa hg5
  go_wp2_with fail
  refine (isqrt_calls _ w3.heap.size r ((n : Int) * 2 ^ k) _ (two_new w5 _) (HA.out.grown0 (grown_alloc _ _ _)) (by rw [hX]; omega) (by rw [hX]; exact Nat.le_of_eq HR.out) (by rw [hX, ← HR.out]; exact Nat.mul_lt_mul_of_lt_of_lt (Nat.lt_succ_self _) (Nat.lt_succ_self _))).mono ?_
  rintro e1 w6 ⟨rfl, hIb, hgb⟩
  obtain ⟨hg6, hs6⟩ := grown_put hgb
  have HA6 := Lib.hid (HA.out.grown0 hg6)
  have HG6 := Lib.hid (grown_trans HG5.out hg6)
  have HB6 := Lib.hid hIb
  clear hIb hgb HA hg6 HG5
  go_wp2_with fail
  refine (iset_calls _ w5.heap.size (r : Int) _ (two_new w6 _) (HB6.out.grown0 (grown_alloc _ _ _))).mono ?_
  rintro e1 w7 ⟨rfl, hIc, hgc⟩
  obtain ⟨hg7, hs7⟩ := grown_put hgc
  have HA7 := Lib.hid (HA6.out.grown0 hg7)
  have HB7 := Lib.hid (HB6.out.grown0 hg7)
  have HG7 := Lib.hid (grown_trans HG6.out hg7)
  have HC7 := Lib.hid hIc
  clear hIc hgc HA6 HB6 hg7 HG6
  go_wp2_with fail
  refine (imul_calls w7.heap.size w5.heap.size w5.heap.size (r : Int) (r : Int) _ (two_new w7 _) (HB7.out.grown0 (grown_alloc _ _ _)) (HB7.out.grown0 (grown_alloc _ _ _)) (by rw [Int.natAbs_natCast]; omega) (by rw [Int.natAbs_natCast]; omega) (by omega) (by omega)).mono ?_
  rintro e1 w8 ⟨rfl, hId, hgd⟩
  obtain ⟨hg8, hs8⟩ := grown_put hgd
  have HB8 := Lib.hid (HB7.out.grown0 hg8)
  have HC8 := Lib.hid (HC7.out.grown0 hg8)
  have HG8 := Lib.hid (grown_trans HG7.out hg8)
  have hsq : ((r : Int) * (r : Int)) = (n : Int) * 2 ^ k := by
    have := HR.out
    have e : ((r * r : Nat) : Int) = ((n * 2 ^ k : Nat) : Int) := by rw [this]
    simpa using e
  have hcz : cmpZ ((n : Int) * 2 ^ k) ((n : Int) * 2 ^ k) = 0 := by unfold cmpZ; simp
  have hcc := icmp_calls w7.heap.size w3.heap.size ((r : Int) * (r : Int)) ((n : Int) * 2 ^ k) w8 hId (HA7.out.grown0 hg8) (by rw [hsq, hX]; omega) (by rw [hX]; omega)
  rw [hsq, hcz] at hcc
  have HCC := Lib.hid hcc
  clear hcc hcz hsq hId hgd HA7 HB7 HC7 hg8 HG7
  go_wp2_with fail
  refine HCC.out.mono ?_
  rintro e1 w9 ⟨rfl, q, hw9⟩
  have hgq : w8.grownBy w9 none := by rw [hw9]; exact ⟨rfl, rfl, rfl, Nat.le_refl _, fun _ _ _ => rfl⟩
  have hg9 := grown_trans HG8.out hgq
  obtain ⟨x0, x1⟩ := K5.out _ hg9
  have T0' := T0.out.grown hg9 (by simp)
  have T1' := T1.out.grown hg9 (by simp)
  obtain ⟨p1, p2, y0, y1, y2, y3⟩ := T0'.open
  obtain ⟨q1, q2, z0, z1, z2, z3⟩ := T1'.open
  have HD := Lib.hid (EDone2.store (w := w) (x := ⟨(r : Int), E⟩) (y := ⟨(r : Int), E⟩) T0' T1' (by omega) (HB8.out.grown0 hgq) (HC8.out.grown0 hgq) (below_of_grown0 (grown_trans HW1.out hg9)) (by omega) (by omega))
  clear hw9 hgq hg9 T0' T1' HCC HB8 HC8 HG8
  go_wp2
  refine bodyPost_ret (v := .tuple #[.agg #[.pointer (some ⟨w5.heap.size, 0, none⟩), .int .i64 E], .agg #[.pointer (some ⟨w6.heap.size, 0, none⟩), .int .i64 E]]) ?_ rfl HD.out
  simp [results, Tryz.results127, go_sem, *]
end Go.Proofs.YtjbdadhggejoiaaGreatDoor

namespace Go.Proofs.YtjbdadhggejoiaaGreatDoor
open Go.RowKit
set_option maxRecDepth 100000

set_option maxHeartbeats 4000000 in
theorem exfloats_calls (v : Value) (n k q : Nat) (e p : Int) (w : World) (hv : ER w v ⟨(n : Int), e⟩) (hk : max 0 (max ((Go.bitLen n : Int) - 53) (-1074 - e)) = k) (hn : n = q * 2 ^ k) (h1 : 4503599627370496 ≤ q) (h2 : q < 9007199254740992) (hp : (k : Int) + e = p) (hp1 : -1074 ≤ p) (hp2 : p ≤ 971) (hl : (words n).length ≤ 1024) (he : -16777216 ≤ e ∧ e ≤ 16777216) :
    Calls Tryz.prog 129 #[v] w fun en w' => en = .returned (.tuple #[.float .f64 (fbits q p), .float .f64 (fbits q p)]) ∧ w.grownBy w' none := by
  obtain ⟨bx, rfl, hIx⟩ := hv
  unfold EV
  have hIx : IR w bx (n : Int) := hIx
  have hbx := hIx.lt
  have hsg : sgnI (n : Int) = 1 := by unfold sgnI; have := Nat.two_pow_pos k; have : 0 < q * 2 ^ k := Nat.mul_pos (by omega) this; rw [if_neg (by omega), if_neg (by omega)]
  have HSx := fun (W : World) (h : w.grownBy W none) => isign_calls bx (n : Int) W (hIx.grown0 h)
  rw [hsg] at HSx
  have hbb : Go.bitLen n ≤ 32 * 1024 := bl_len hl
  obtain ⟨bl, hbe⟩ : ∃ bl, bl = Go.bitLen n := ⟨_, rfl⟩
  have hb := fun (W : World) (b : Nat) (h : IR W b (n : Int)) => ibits_calls b (n : Int) W h (by rw [Int.natAbs_natCast]; omega)
  simp only [Int.natAbs_natCast] at hb
  simp only [← hbe] at hb hk hbb
  have HB := Lib.hid hb
  have HSx := Lib.hid HSx
  have HX := Lib.hid hIx
  have hkb : k ≤ 16777216 := by omega
  have hwr : IntKind.i64.wrap ((k : Int) + e) = p := by rw [hp]; exact wrap_in (by omega) (by omega)
  obtain ⟨d1, hd1⟩ : ∃ d : Int, d = (bl : Int) - 53 := ⟨_, rfl⟩
  obtain ⟨d2, hd2⟩ : ∃ d : Int, d = -1074 - e := ⟨_, rfl⟩
  have hwa : IntKind.i64.wrap ((bl : Int) - 53) = d1 := by rw [hd1]; exact wrap_in (by omega) (by omega)
  have hwb : IntKind.i64.wrap (-1074 - e) = d2 := by rw [hd2]; exact wrap_in (by omega) (by omega)
  have hmx : (if (if 0 < d1 then d1 else 0) < d2 then d2 else if 0 < d1 then d1 else 0) = (k : Int) := by
    rw [← hk, ← hd1, ← hd2]
    split <;> split at * <;> omega
  clear hd1 hd2
  have hfl : floatOfInt .f64 (q : Int) = fbits q 0 := ofNat_f h1 h2
  have HN := Lib.hid hn
  have HL := Lib.hid (fun W => mldexp_calls q p W h1 h2 hp1 hp2)
  clear hIx hb hsg hbe hk hn hp
  go_enter Tryz.func129, Tryz.ntmps129
  go_upto_region 1 with fail
  obtain ⟨w3, hw3⟩ : ∃ w3, w3 = w.alloc (.cells #[.pointer (some ⟨bx, 0, none⟩), .int .i64 e] 120) := ⟨_, rfl⟩
  have r0 : w3.heap[w.heap.size]? = some (.cells #[.pointer (some ⟨bx, 0, none⟩), .int .i64 e] 120 (0, 0)) := by rw [hw3]; exact heap_at rfl
  have hg3 : w.grownBy w3 none := by rw [hw3]; exact grown_alloc _ _ _
  have hsz : w.heap.size + 1 ≤ w3.heap.size := by rw [hw3]; simp
  rw [← hw3]
  obtain ⟨x0, x1⟩ := row2 r0
  have HX3 := Lib.hid (HX.out.grown0 hg3)
  have HW1 := Lib.hid hg3
  have K5 : Hid (∀ w' : World, w3.grownBy w' none → w'.cell? ⟨w.heap.size, 0, none⟩ = some (.pointer (some ⟨bx, 0, none⟩)) ∧ w'.cell? ⟨w.heap.size, 1, none⟩ = some (.int .i64 e) ∧ w3.grownBy w' none) := fun w' h =>
        ⟨cell_ext h x0, cell_ext h x1, h⟩
  have hlt0 : w.heap.size < w3.heap.size := by omega
  clear hw3 r0 hg3
  go_wp2_with fail
  refine (iabs_calls _ bx (n : Int) _ (two_new w3 _) (HX3.out.grown0 (grown_alloc _ _ _))).mono ?_
  rintro e1 w4 ⟨rfl, hIa, hga⟩
  obtain ⟨hg4, hs4⟩ := grown_put hga
  obtain ⟨xa, xb, _⟩ := K5.out _ hg4
  rw [Int.natAbs_natCast] at hIa
  have HA := Lib.hid hIa
  have HG4 := Lib.hid hg4
  clear x0 x1 hga hIa hg4
  have K6 : Hid (∀ w' : World, w4.grownBy w' none → w'.cell? ⟨w.heap.size, 0, none⟩ = some (.pointer (some ⟨bx, 0, none⟩)) ∧ w'.cell? ⟨w.heap.size, 1, none⟩ = some (.int .i64 e) ∧ w4.grownBy w' none) := fun w' h =>
        ⟨cell_ext h xa, cell_ext h xb, h⟩
  have G0 : Hid (∀ n, w4.grownBy (w4.drewN n) none) := fun n => ⟨rfl, rfl, rfl, Nat.le_refl _, fun _ _ _ => rfl⟩
  go_upto_region 2 with fail
  go_region_held3 (fun w' : World => w'.cell? ⟨w.heap.size, 0, none⟩ = some (.pointer (some ⟨bx, 0, none⟩)) ∧ w'.cell? ⟨w.heap.size, 1, none⟩ = some (.int .i64 e) ∧ w4.grownBy w' none)
    (first
      | exact K6.out _ (G0.out _)
      | exact K6.out _ (G0.out 1)
      | exact K6.out _ hG5)
    ((go_at_call 106; go_split_ands; refine (HB.out _ w3.heap.size (HA.out.grown0 (by assumption))).mono ?_; rintro e1 w8 ⟨rfl, hw8⟩; obtain rfl := hw8.symm))
  all_goals
    obtain ⟨w5, hw5⟩ : ∃ w5, w5 = w4.drew := ⟨_, rfl⟩
    have hg5 : w4.grownBy w5 none := by rw [hw5]; exact ⟨rfl, rfl, rfl, Nat.le_refl _, fun _ _ _ => rfl⟩
    have HG5 := Lib.hid (grown_trans HG4.out hg5)
    have HA5 := Lib.hid (HA.out.grown0 hg5)
    have hs5 : w4.heap.size ≤ w5.heap.size := hg5.size
    rw [← hw5]
    have hqn : n / 2 ^ k = q := by rw [HN.out, Nat.mul_div_cancel _ (Nat.two_pow_pos k)]
    have hnq : ((q : Int) * 2 ^ k) = (n : Int) := by
      have e : ((n : Nat) : Int) = ((q * 2 ^ k : Nat) : Int) := by rw [← HN.out]
      simpa using e.symm
    have hlq : (words q).length ≤ 1024 := Nat.le_trans (words_len_le (by rw [HN.out]; exact Nat.le_mul_of_pos_right _ (Nat.two_pow_pos k))) hl
    have hr1 := fun (W : World) (b : Nat) (h2 : Two W b) (hI : IR W w3.heap.size (n : Int)) => irsh_calls b w3.heap.size k n W h2 hI (by omega) (by omega)
    rw [hqn] at hr1
    have HR1 := Lib.hid hr1
    have HNQ := Lib.hid hnq
    clear hw5 hg5 xa xb HA HG4 K6 G0 hmx hwa hwb hqn hnq hr1
    clear HB
    go_wp2_with fail
    refine (HR1.out _ _ (two_new w5 _) (HA5.out.grown0 (grown_alloc _ _ _))).mono ?_
    rintro e1 w6 ⟨rfl, hIb, hgb⟩
    obtain ⟨hg6, hs6⟩ := grown_put hgb
    have HA6 := Lib.hid (HA5.out.grown0 hg6)
    have HB6 := Lib.hid hIb
    have HG6 := Lib.hid (grown_trans HG5.out hg6)
    clear hIb hgb hg6 HA5 HG5
    go_wp2_with fail
    refine (ilsh_calls _ w5.heap.size k (q : Int) _ (two_new w6 _) (HB6.out.grown0 (grown_alloc _ _ _)) (by rw [Int.natAbs_natCast]; omega) (by omega)).mono ?_
    rintro e1 w7 ⟨rfl, hIc, hgc⟩
    obtain ⟨hg7, hs7⟩ := grown_put hgc
    rw [HNQ.out] at hIc
    have hcc := icmp_calls w6.heap.size w3.heap.size (n : Int) (n : Int) w7 hIc (HA6.out.grown0 hg7) (by rw [Int.natAbs_natCast]; omega) (by rw [Int.natAbs_natCast]; omega)
    rw [show cmpZ (n : Int) n = 0 by unfold cmpZ; simp] at hcc
    have HCC := Lib.hid hcc
    have HB7 := Lib.hid (HB6.out.grown0 hg7)
    have HG7 := Lib.hid (grown_trans HG6.out hg7)
    clear hIc hgc hcc hg7 HA6 HB6 HG6
    go_wp2_with fail
    refine HCC.out.mono ?_
    rintro e1 w8 ⟨rfl, j, hw8⟩
    have hg8 : w7.grownBy w8 none := by rw [hw8]; exact ⟨rfl, rfl, rfl, Nat.le_refl _, fun _ _ _ => rfl⟩
    have hs8 : w7.heap.size ≤ w8.heap.size := hg8.size
    have HG8 := Lib.hid (grown_trans HG7.out hg8)
    have HB8 := Lib.hid (HB7.out.grown0 hg8)
    obtain ⟨xa, xb, _⟩ := K5.out _ HG8.out
    clear hw8 hg8 HB7 HG7 HCC
    have K6 : Hid (∀ w' : World, w8.grownBy w' none → w'.cell? ⟨w.heap.size, 0, none⟩ = some (.pointer (some ⟨bx, 0, none⟩)) ∧ w'.cell? ⟨w.heap.size, 1, none⟩ = some (.int .i64 e) ∧ w8.grownBy w' none) := fun w' h =>
          ⟨cell_ext h xa, cell_ext h xb, h⟩
    have G0 : Hid (∀ n, w8.grownBy (w8.drewN n) none) := fun n => ⟨rfl, rfl, rfl, Nat.le_refl _, fun _ _ _ => rfl⟩
    have hqb : q < 18446744073709551616 := by omega
    go_upto_region 5 with fail
    go_region_held3 (fun w' : World => w'.cell? ⟨w.heap.size, 0, none⟩ = some (.pointer (some ⟨bx, 0, none⟩)) ∧ w'.cell? ⟨w.heap.size, 1, none⟩ = some (.int .i64 e) ∧ w8.grownBy w' none)
      (first
        | exact K6.out _ (G0.out _)
        | exact K6.out _ (G0.out 1)
        | exact K6.out _ hG5)
      (first
        | (go_at_call 143; go_split_ands; refine (iuint_calls w5.heap.size q _ (HB8.out.grown0 (by assumption)) hqb).mono ?_; rintro e1 w9 ⟨rfl, hw9⟩; obtain rfl := hw9.symm)
        | (go_at_call 142; go_split_ands; refine (HL.out _).mono ?_; rintro e1 w9 ⟨rfl, rfl⟩))
    all_goals
      obtain ⟨w9, hw9⟩ : ∃ w9, w9 = w8.drew := ⟨_, rfl⟩
      have hg9 : w8.grownBy w9 none := by rw [hw9]; exact ⟨rfl, rfl, rfl, Nat.le_refl _, fun _ _ _ => rfl⟩
      have HG9 := Lib.hid (grown_trans HG8.out hg9)
      obtain ⟨xa, xb, _⟩ := K5.out _ HG9.out
      have HW9 := Lib.hid (grown_trans HW1.out HG9.out)
      rw [← hw9]
      clear hw9 hg9 K6 G0
      go_wp2_with fail
      refine (HSx.out _ HW9.out).mono ?_
      rintro e1 w10 ⟨rfl, hw10⟩
      obtain rfl := hw10.symm
      go_wp2
      go_ret2
      exact ⟨rfl, HW9.out⟩
end Go.Proofs.YtjbdadhggejoiaaGreatDoor

namespace Go.Proofs.YtjbdadhggejoiaaGreatDoor
open Go.RowKit
set_option maxRecDepth 100000

/-- a sum of roots as a value -/
def SV (b1 b2 b3 : Nat) (c p q : Ex) : Value := .agg #[.pointer (some ⟨b1, 0, none⟩), .int .i64 c.e, .pointer (some ⟨b2, 0, none⟩), .int .i64 p.e, .pointer (some ⟨b3, 0, none⟩), .int .i64 q.e]
def extimes (x y : Ex) : Ex := ⟨x.z * y.z, x.e + y.e⟩
def exF (f : Nat) : Ex := ⟨(ofF f).z, (ofF f).e⟩
def cmpD (c : Ex) (f : Nat) : Ex := exminus (exF f) c
def cmpM (c p : Ex) (f : Nat) : Ex := exminus (extimes (cmpD c f) (cmpD c f)) p
def cmpL (c p q : Ex) (f : Nat) : Ex := exminus (cmpM c p f) q
def cmpR (c p q : Ex) (f : Nat) : Ex := exminus ⟨p.z * q.z, p.e + q.e + 2⟩ (extimes (cmpL c p q f) (cmpL c p q f))
def cmpS (c p q : Ex) (f : Nat) : Int := if (cmpL c p q f).z < 0 then 1 else sgnI (cmpR c p q f).z

theorem EDone.grow {w w' : World} {x : Ex} {en : Ending} (h : EDone w x en w') : ∃ b, en = .returned (.agg #[.pointer (some ⟨b, 0, none⟩), .int .i64 x.e]) ∧ IR w' b x.z ∧ w.grownBy w' none := by
  obtain ⟨v, rfl, ⟨b, rfl, hI⟩, hb⟩ := h
  exact ⟨b, rfl, hI, grown_of_below hb none⟩
theorem row6 {w : World} {b : Nat} {x y z x' y' z' : Value} {t : TypeId} (h : w.heap[b]? = some (.cells #[x, y, z, x', y', z'] t (0, 0))) : w.cell? ⟨b, 0, none⟩ = some x ∧ w.cell? ⟨b, 1, none⟩ = some y ∧ w.cell? ⟨b, 2, none⟩ = some z ∧ w.cell? ⟨b, 3, none⟩ = some x' ∧ w.cell? ⟨b, 4, none⟩ = some y' ∧ w.cell? ⟨b, 5, none⟩ = some z' := by
  refine ⟨?_, ?_, ?_, ?_, ?_, ?_⟩ <;> simp [World.cell?, h]
theorem grown_set_new {w w' : World} {b i : Nat} {v : Value} (h : w.grownBy w' none) (hb : w.heap.size ≤ b) : w.grownBy (w'.setCell ⟨b, i, none⟩ v) none :=
  ⟨h.os, h.tape, h.output, by simpa using h.size, fun k hk hn => by rw [heap_setCell_other w' ⟨b, i, none⟩ k v (by simp; omega)]; exact h.block k hk hn⟩
/-- a variable of two cells that holds an exact number -/
def VarE (w2 wx : World) (B bd : Nat) (x : Ex) : Prop := ∃ t, wx.heap[B]? = some (.cells #[.pointer (some ⟨bd, 0, none⟩), .int .i64 x.e] t (0, 0)) ∧ IR wx bd x.z ∧ w2.heap.size ≤ B ∧ w2.grownBy wx none
theorem VarE.alloc {w2 w4 : World} {bd : Nat} {x : Ex} {t : TypeId} (hI : IR w4 bd x.z) (hg : w2.grownBy w4 none) : VarE w2 (w4.alloc (.cells #[.pointer (some ⟨bd, 0, none⟩), .int .i64 x.e] t)) w4.heap.size bd x :=
  ⟨t, heap_alloc_new w4 _, hI.alloc _, hg.size, grown_trans hg (grown_alloc _ _ _)⟩
theorem VarE.set {w2 w4 : World} {B bd : Nat} {x : Ex} (h : Duo w4 B) (hI : IR w4 bd x.z) (hB : w2.heap.size ≤ B) (hg : w2.grownBy w4 none) : VarE w2 ((w4.setCell ⟨B, 0, none⟩ (.pointer (some ⟨bd, 0, none⟩))).setCell ⟨B, 1, none⟩ (.int .i64 x.e)) B bd x := by
  have hs := h.set (some ⟨bd, 0, none⟩) x.e
  have hne := duo_ne h hI
  obtain ⟨x0, e0, t, h0⟩ := h
  have h1 := heap_setCell_same w4 B 0 _ t (.pointer (some ⟨bd, 0, none⟩)) h0
  have h2 := heap_setCell_same _ B 1 _ t (.int .i64 x.e) h1
  exact ⟨t, h2, hI.grownR hs.2 hne ⟨_, t, h0, fun i u hu n => by
    match i with
    | 0 => simp at hu; subst hu; simp
    | 1 => simp at hu; subst hu; simp
    | i + 2 => simp at hu⟩, hB, grown_set_new (grown_set_new hg hB) hB⟩
theorem VarE.drew {w2 wx : World} {B bd : Nat} {x : Ex} (h : VarE w2 wx B bd x) : VarE w2 wx.drew B bd x := by
  obtain ⟨t, h1, h2, h3, h4⟩ := h
  exact ⟨t, h1, h2, h3, grown_trans h4 ⟨rfl, rfl, rfl, Nat.le_refl _, fun _ _ _ => rfl⟩⟩
theorem pw_le (n k : Nat) (h : n ≤ k) : 4294967296 ^ n ≤ 4294967296 ^ k := Nat.pow_le_pow_right (by decide) h
theorem pw2_le (n k : Nat) (h : n ≤ 32 * k) : 2 ^ n ≤ 4294967296 ^ k := by
  rw [show (4294967296 : Nat) = 2 ^ 32 from rfl, ← Nat.pow_mul]
  exact Nat.pow_le_pow_right (by decide) h
theorem dy_sm {a : Dy} (h : a.ok) : (⟨a.z, a.e⟩ : Ex).sm := by
  have h1 := h.len
  have h2 := val_lt (words_isW a.m)
  rw [val_words] at h2
  refine ⟨?_, ?_⟩
  · show a.z.natAbs < _
    rw [dz_abs]
    exact Nat.lt_of_lt_of_le h2 (pw_le (words a.m).length 65536 (by omega))
  · rcases h with ⟨_, h, _⟩ | ⟨_, _, h, h'⟩
    · simp only [h]; decide
    · simp only; omega
theorem sgn_lt (z : Int) : decide (sgnI z < 0) = decide (z < 0) := by
  unfold sgnI
  by_cases h : z = 0
  · subst h; rfl
  · rw [if_neg h]
    split <;> simp_all

set_option maxHeartbeats 4000000 in
theorem scmp_calls (b1 b2 b3 : Nat) (c p q : Ex) (f : Nat) (w : World) (hI1 : IR w b1 c.z) (hI2 : IR w b2 p.z) (hI3 : IR w b3 q.z) (hf : Fin64 f) (hT : Tab w)
    (hc : c.sm) (hp : p.sm) (hq : q.sm) (hd : (cmpD c f).sm) (hd0 : 0 ≤ (cmpD c f).z) (hdd : (extimes (cmpD c f) (cmpD c f)).sm) (hm : (cmpM c p f).sm) (hl : (cmpL c p q f).sm) (hpq : (⟨p.z * q.z, p.e + q.e + 2⟩ : Ex).sm) (hll : (extimes (cmpL c p q f) (cmpL c p q f)).sm) :
    Calls Tryz.prog 101 #[SV b1 b2 b3 c p q, .float .f64 f] w fun en w' => en = .returned (.int .i64 (cmpS c p q f)) ∧ w.grownBy w' none := by
  unfold SV cmpS
  have hg0 := dy_sm (ofF_ok hf)
  have hED : cmpD c f = exminus ⟨(ofF f).z, (ofF f).e⟩ c := rfl
  have hEM : cmpM c p f = exminus (extimes (cmpD c f) (cmpD c f)) p := rfl
  have hEL : cmpL c p q f = exminus (cmpM c p f) q := rfl
  have hER : cmpR c p q f = exminus ⟨p.z * q.z, p.e + q.e + 2⟩ (extimes (cmpL c p q f) (cmpL c p q f)) := rfl
  obtain ⟨D, hD⟩ : ∃ D, D = cmpD c f := ⟨_, rfl⟩
  obtain ⟨M, hM⟩ : ∃ M, M = cmpM c p f := ⟨_, rfl⟩
  obtain ⟨L, hL⟩ : ∃ L, L = cmpL c p q f := ⟨_, rfl⟩
  obtain ⟨R, hR⟩ : ∃ R, R = cmpR c p q f := ⟨_, rfl⟩
  rw [← hD] at hd hd0 hdd hED hEM
  rw [← hM] at hm hEM hEL
  rw [← hL] at hl hll hEL hER ⊢
  rw [← hR] at hER ⊢
  clear hD hM hL hR
  obtain ⟨RS, hRS⟩ : ∃ RS : Int, RS = if L.z < 0 then 1 else sgnI R.z := ⟨_, rfl⟩
  rw [← hRS]
  have HRS := Lib.hid hRS
  clear hRS
  have HI := Lib.hid (fun W => isinf_calls f W hf)
  have hok := ofF_ok hf
  have HOF := Lib.hid (fun W (h : Tab W) => dof_calls f W hf h)
  obtain ⟨G, hG⟩ : ∃ G, G = ofF f := ⟨_, rfl⟩
  rw [← hG] at hg0 hED hok
  simp only [← hG] at HOF
  clear hG
  have hl1 := hI1.lt
  have hl2 := hI2.lt
  have hl3 := hI3.lt
  have H1 := Lib.hid hI1
  have H2 := Lib.hid hI2
  have H3 := Lib.hid hI3
  have hTb : Tab (w.alloc (.cells #[.pointer (some ⟨b1, 0, none⟩), .int .i64 c.e, .pointer (some ⟨b2, 0, none⟩), .int .i64 p.e, .pointer (some ⟨b3, 0, none⟩), .int .i64 q.e] 123)) := hT.ext (grown_alloc _ _ _)
  have HSM := Lib.hid (And.intro hc (And.intro hp (And.intro hq (And.intro hd (And.intro hdd (And.intro hm (And.intro hl (And.intro hpq hll))))))))
  have HEQ := Lib.hid (And.intro hED (And.intro hEM (And.intro hEL hER)))
  obtain ⟨T, hT0⟩ : ∃ T, T = extimes D D := ⟨_, rfl⟩
  obtain ⟨S, hS0⟩ : ∃ S, S = extimes L L := ⟨_, rfl⟩
  have HTS := Lib.hid (And.intro hT0 hS0)
  clear hT0 hS0
  have HG0 := Lib.hid hg0
  have hsd : (sgnI D.z < 0) = False := by rw [← decide_eq_true_eq (p := sgnI D.z < 0), sgn_lt]; simp; exact hd0
  have hpe := hp.2
  have hqe := hq.2
  clear hI1 hI2 hI3 hc hp hq hd hdd hm hl hpq hll hED hEM hEL hER hg0 hd0
  go_enter Tryz.func101, Tryz.ntmps101
  go_wp2_with fail
  refine (HI.out _).mono ?_
  rintro e1 w1 ⟨rfl, rfl⟩
  go_wp2_with fail
  refine (HOF.out _ hTb).mono ?_
  rintro e1 w1 ⟨vg, rfl, hNg, hbg⟩
  obtain ⟨A, cg, rfl, hc1, hc2, hW⟩ := hNg
  have hNg : NR w1 (NV G.neg A (words G.m).length cg G.e) G.neg G.m G.e := ⟨A, cg, rfl, hc1, hc2, hW⟩
  have hbg' := grown_of_below hbg none
  have hB := heap_grown (heap_at (w := w) (o := .cells #[.pointer (some ⟨b1, 0, none⟩), .int .i64 c.e, .pointer (some ⟨b2, 0, none⟩), .int .i64 p.e, .pointer (some ⟨b3, 0, none⟩), .int .i64 q.e] 123) rfl) hbg'
  have hs1 : w.heap.size < w1.heap.size := by have := hbg'.size; simp at this; omega
  have hgw1 := grown_trans (grown_alloc w _ none) hbg'
  unfold NV at hNg ⊢
  obtain ⟨N, hN⟩ : ∃ N, N = (words G.m).length := ⟨_, rfl⟩
  rw [← hN] at hNg ⊢
  clear hN hc1 hc2 hW hbg hbg'
  go_upto_region 6 with fail
  obtain ⟨w2, hw2⟩ : ∃ w2, w2 = w1.alloc (.cells #[.bool G.neg, .slice A N cg, .int .i64 G.e] 74) := ⟨_, rfl⟩
  have r0 : w2.heap[w.heap.size]? = some (.cells #[.pointer (some ⟨b1, 0, none⟩), .int .i64 c.e, .pointer (some ⟨b2, 0, none⟩), .int .i64 p.e, .pointer (some ⟨b3, 0, none⟩), .int .i64 q.e] 123 (0, 0)) := by rw [hw2]; exact heap_old hB
  have r1 : w2.heap[w1.heap.size]? = some (.cells #[.bool G.neg, .slice A N cg, .int .i64 G.e] 74 (0, 0)) := by rw [hw2]; exact heap_at rfl
  have hg2 : w.grownBy w2 none := by rw [hw2]; exact grown_trans hgw1 (grown_alloc _ _ _)
  have HOX := Lib.hid (fun (W : World) (h : w2.grownBy W none) => dexof_calls (.agg #[.bool G.neg, .slice A N cg, .int .i64 G.e]) G W (by rw [hw2] at h; exact NR.grown0 hNg (grown_trans (grown_alloc _ _ _) h)) hok)
  have hs2 : w1.heap.size < w2.heap.size := by rw [hw2]; simp
  rw [← hw2]
  obtain ⟨x0, x1, x2, x3, x4, x5⟩ := row6 r0
  obtain ⟨y0, y1, y2⟩ := row3 r1
  have HG2 := Lib.hid hg2
  have G0 : Hid (∀ n, w2.grownBy (w2.drewN n) none) := fun n => ⟨rfl, rfl, rfl, Nat.le_refl _, fun _ _ _ => rfl⟩
  have K6 : Hid (∀ w' : World, w2.grownBy w' none → w'.cell? ⟨w.heap.size, 0, none⟩ = some (.pointer (some ⟨b1, 0, none⟩)) ∧ w'.cell? ⟨w.heap.size, 1, none⟩ = some (.int .i64 c.e) ∧ w'.cell? ⟨w1.heap.size, 0, none⟩ = some (.bool G.neg) ∧ w'.cell? ⟨w1.heap.size, 1, none⟩ = some (.slice A N cg) ∧ w'.cell? ⟨w1.heap.size, 2, none⟩ = some (.int .i64 G.e) ∧ w2.grownBy w' none) := fun w' h =>
    ⟨cell_ext h x0, cell_ext h x1, cell_ext h y0, cell_ext h y1, cell_ext h y2, h⟩
  have K7 : Hid (∀ w' : World, w2.grownBy w' none → w'.cell? ⟨w.heap.size, 2, none⟩ = some (.pointer (some ⟨b2, 0, none⟩)) ∧ w'.cell? ⟨w.heap.size, 3, none⟩ = some (.int .i64 p.e) ∧ w'.cell? ⟨w.heap.size, 4, none⟩ = some (.pointer (some ⟨b3, 0, none⟩)) ∧ w'.cell? ⟨w.heap.size, 5, none⟩ = some (.int .i64 q.e)) := fun w' h =>
    ⟨cell_ext h x2, cell_ext h x3, cell_ext h x4, cell_ext h x5⟩
  clear hB hNg hw2 r0 r1 hg2 hgw1
  go_cut [7] (fun v7 wx => ∃ B7 bd, v7 = .pointer (some ⟨B7, 0, none⟩) ∧ VarE w2 wx B7 bd D)
  case first =>
    go_region_held3 (fun w' : World => w'.cell? ⟨w.heap.size, 0, none⟩ = some (.pointer (some ⟨b1, 0, none⟩)) ∧ w'.cell? ⟨w.heap.size, 1, none⟩ = some (.int .i64 c.e) ∧ w'.cell? ⟨w1.heap.size, 0, none⟩ = some (.bool G.neg) ∧ w'.cell? ⟨w1.heap.size, 1, none⟩ = some (.slice A N cg) ∧ w'.cell? ⟨w1.heap.size, 2, none⟩ = some (.int .i64 G.e) ∧ w2.grownBy w' none)
      (first
        | exact K6.out _ (G0.out _)
        | exact K6.out _ (G0.out 1)
        | exact K6.out _ hG5
        | exact K6.out _ hG4
        | exact K6.out _ (grown_set_new (grown_set_new (grown_trans hG5 (grown_alloc _ _ _)) (by omega)) (by omega))
        | exact K6.out _ (grown_set_new (grown_set_new hG5 (by omega)) (by omega))
        | (go_split_ands; exact K6.out _ (grown_trans (by assumption) (grown_alloc _ _ _))))
      (first
        | (go_at_call 97; go_split_ands; refine (HOX.out _ (by assumption)).mono ?_; intro e1 w3 hh; obtain ⟨bo, rfl, hIo, hgo⟩ := hh.grow; have hG4 := grown_trans (show w2.grownBy _ none by assumption) hgo; have hs3 := hG4.size; (try (have hT3 : Duo w3 w2.heap.size := Duo.grown (b := w2.heap.size) (by exact ⟨_, _, _, heap_alloc_new w2 _⟩) hgo (by simp))); have HIo := Lib.hid hIo; clear hh hIo)
        | (go_at_call 130; go_split_ands; refine (exminus_calls _ _ ⟨G.z, G.e⟩ c _ ⟨bo, rfl, by first | exact HIo.out | exact HIo.out.alloc _⟩ HG0.out ⟨b1, rfl, H1.out.grown0 (grown_trans HG2.out (by assumption))⟩ HSM.out.1).mono ?_; intro e1 w4 hh; rw [← HEQ.out.1] at hh; obtain ⟨bd, rfl, hId, hgd⟩ := hh.grow; have hG5 := grown_trans (show w2.grownBy _ none by assumption) hgd; have HId := Lib.hid hId; (try (have hT7 : Duo w4 w2.heap.size := Duo.grown hT3 hgd (by simp); obtain ⟨s1, s2, z0, z1, z2, z3⟩ := hT7.open; have hlt7 := (IR.lt HId.out))); (try (have hT7 : Duo w4 w3.heap.size := Duo.grown (b := w3.heap.size) (by exact ⟨_, _, _, heap_alloc_new w3 _⟩) hgd (by simp); obtain ⟨s1, s2, z0, z1, z2, z3⟩ := hT7.open; have hlt7 := (IR.lt HId.out))); clear hh hId))
    all_goals
      go_wp2
      go_meet
      first
        | exact ⟨_, _, rfl, VarE.alloc HId.out hG5⟩
        | exact ⟨_, _, rfl, (VarE.alloc HId.out hG5).drew⟩
        | exact ⟨_, _, rfl, VarE.set hT7 HId.out (by omega) hG5⟩
  case rest =>
    obtain ⟨B7, bd, rfl, hV7⟩ := hcut
    obtain ⟨w5, hw5⟩ : ∃ w5, w5 = wc := ⟨_, rfl⟩
    subst hw5
    clear K6 G0 x0 x1 x2 x3 x4 x5 y0 y1 y2 HOX
    obtain ⟨t7, hr7, hId, hB7, hg5⟩ := hV7
    obtain ⟨v0, v1⟩ := row2 hr7
    have HD5 := Lib.hid hId
    have HG5 := Lib.hid hg5
    obtain ⟨x2, x3, x4, x5⟩ := K7.out _ hg5
    have hlB := (Array.getElem?_eq_some_iff.1 hr7).1
    have hs5 := hg5.size
    have HSg := Lib.hid (isign_calls bd D.z w5 hId)
    clear hId hr7 hg5 K7
    go_wp2_with fail
    refine HSg.out.mono ?_
    rintro e1 w8 ⟨rfl, hw8⟩
    obtain rfl := hw8.symm
    go_upto_region 9 with fail
    have G0 : Hid (∀ n, w5.grownBy (w5.drewN n) none) := fun n => ⟨rfl, rfl, rfl, Nat.le_refl _, fun _ _ _ => rfl⟩
    have K6 : Hid (∀ w' : World, w5.grownBy w' none → w'.cell? ⟨B7, 0, none⟩ = some (.pointer (some ⟨bd, 0, none⟩)) ∧ w'.cell? ⟨B7, 1, none⟩ = some (.int .i64 D.e) ∧ w'.cell? ⟨w.heap.size, 2, none⟩ = some (.pointer (some ⟨b2, 0, none⟩)) ∧ w'.cell? ⟨w.heap.size, 3, none⟩ = some (.int .i64 p.e) ∧ w'.cell? ⟨w.heap.size, 4, none⟩ = some (.pointer (some ⟨b3, 0, none⟩)) ∧ w'.cell? ⟨w.heap.size, 5, none⟩ = some (.int .i64 q.e) ∧ w5.grownBy w' none) := fun w' h =>
      ⟨cell_ext h v0, cell_ext h v1, cell_ext h x2, cell_ext h x3, cell_ext h x4, cell_ext h x5, h⟩
    have HP2 := Lib.hid (fun (W : World) (h : w5.grownBy W none) => H2.out.grown0 (grown_trans HG2.out (grown_trans HG5.out h)))
    have HP3 := Lib.hid (fun (W : World) (h : w5.grownBy W none) => H3.out.grown0 (grown_trans HG2.out (grown_trans HG5.out h)))
    go_cut [8] (fun v8 wx => ∃ B8 bl, v8 = .pointer (some ⟨B8, 0, none⟩) ∧ VarE w5 wx B8 bl L)
    case first =>
      go_region_held3 (fun w' : World => w'.cell? ⟨B7, 0, none⟩ = some (.pointer (some ⟨bd, 0, none⟩)) ∧ w'.cell? ⟨B7, 1, none⟩ = some (.int .i64 D.e) ∧ w'.cell? ⟨w.heap.size, 2, none⟩ = some (.pointer (some ⟨b2, 0, none⟩)) ∧ w'.cell? ⟨w.heap.size, 3, none⟩ = some (.int .i64 p.e) ∧ w'.cell? ⟨w.heap.size, 4, none⟩ = some (.pointer (some ⟨b3, 0, none⟩)) ∧ w'.cell? ⟨w.heap.size, 5, none⟩ = some (.int .i64 q.e) ∧ w5.grownBy w' none)
        (first
          | exact K6.out _ (G0.out _)
          | exact K6.out _ (G0.out 1)
          | exact K6.out _ hGc
          | exact K6.out _ hGb
          | exact K6.out _ hGa
          | exact K6.out _ (grown_set_new (grown_set_new (grown_trans hGc (grown_alloc _ _ _)) (by omega)) (by omega))
          | exact K6.out _ (grown_set_new (grown_set_new hGc (by omega)) (by omega))
          | (go_split_ands; exact K6.out _ (grown_trans (by assumption) (grown_alloc _ _ _))))
        (first
          | (go_at_call 131; go_split_ands; refine (extimes_calls _ _ D D _ ⟨bd, rfl, HD5.out.grown0 (by assumption)⟩ HSM.out.2.2.2.1 ⟨bd, rfl, HD5.out.grown0 (by assumption)⟩ HSM.out.2.2.2.1).mono ?_; intro e1 wa hh; rw [show (⟨D.z * D.z, D.e + D.e⟩ : Ex) = T from HTS.out.1.symm] at hh; obtain ⟨ba, rfl, hIa, hga⟩ := hh.grow; have hGa := grown_trans (show w5.grownBy _ none by assumption) hga; have hsa := hGa.size; (try (have hTa : Duo wa w5.heap.size := Duo.grown (b := w5.heap.size) (by exact ⟨_, _, _, heap_alloc_new w5 _⟩) hga (by simp))); have HIa := Lib.hid hIa; clear hh hIa)
          | (go_at_call_of 130 (Value.agg #[.pointer (some ⟨ba, 0, none⟩), .int .i64 T.e]); go_split_ands; refine (exminus_calls _ _ T p _ ⟨ba, rfl, by first | exact HIa.out | exact HIa.out.alloc _⟩ (by rw [HTS.out.1]; exact HSM.out.2.2.2.2.1) ⟨b2, rfl, HP2.out _ (by assumption)⟩ HSM.out.2.1).mono ?_; intro e1 wb hh; rw [HTS.out.1, ← HEQ.out.2.1] at hh; obtain ⟨bb, rfl, hIb, hgb⟩ := hh.grow; have hGb := grown_trans (show w5.grownBy _ none by assumption) hgb; have hsb := hGb.size; (try (have hTb : Duo wb w5.heap.size := Duo.grown hTa hgb (by simp))); (try (have hTb : Duo wb wa.heap.size := Duo.grown (b := wa.heap.size) (by exact ⟨_, _, _, heap_alloc_new wa _⟩) hgb (by simp))); have HIb := Lib.hid hIb; clear hh hIb)
          | (go_at_call_of 130 (Value.agg #[.pointer (some ⟨bb, 0, none⟩), .int .i64 M.e]); go_split_ands; refine (exminus_calls _ _ M q _ ⟨bb, rfl, by first | exact HIb.out | exact HIb.out.alloc _⟩ HSM.out.2.2.2.2.2.1 ⟨b3, rfl, HP3.out _ (by assumption)⟩ HSM.out.2.2.1).mono ?_; intro e1 wd hh; rw [← HEQ.out.2.2.1] at hh; obtain ⟨bl, rfl, hIl, hgl⟩ := hh.grow; have hGc := grown_trans (show w5.grownBy _ none by assumption) hgl; (try (have hTc := Duo.grown hTb hgl (by simp); obtain ⟨s1, s2, z0, z1, z2, z3⟩ := hTc.open; have hlt8 := IR.lt hIl)); (try (have hTc : Duo wd wb.heap.size := Duo.grown (b := wb.heap.size) (by exact ⟨_, _, _, heap_alloc_new wb _⟩) hgl (by simp); obtain ⟨s1, s2, z0, z1, z2, z3⟩ := hTc.open; have hlt8 := IR.lt hIl)); have HIl := Lib.hid hIl; clear hh hIl))
      all_goals
        go_wp2
        go_meet
        first
          | exact ⟨_, _, rfl, VarE.alloc HIl.out hGc⟩
          | exact ⟨_, _, rfl, (VarE.alloc HIl.out hGc).drew⟩
          | exact ⟨_, _, rfl, VarE.set hTc HIl.out (by omega) hGc⟩
    case rest =>
      obtain ⟨B8, bl, rfl, hV8⟩ := hcut
      obtain ⟨w6, hw6⟩ : ∃ w6, w6 = wc := ⟨_, rfl⟩
      subst hw6
      obtain ⟨t8, hr8, hIl, hB8, hg6⟩ := hV8
      obtain ⟨y0, y1⟩ := row2 hr8
      obtain ⟨_, _, z2, z3, z4, z5, _⟩ := K6.out _ hg6
      have HL6 := Lib.hid hIl
      have HG6 := Lib.hid (grown_trans HG2.out (grown_trans HG5.out hg6))
      have HSl := Lib.hid (isign_calls bl L.z w6 hIl)
      have hs6 := hg6.size
      have hlB8 := (Array.getElem?_eq_some_iff.1 hr8).1
      have HQ2 := Lib.hid (HP2.out _ hg6)
      have HQ3 := Lib.hid (HP3.out _ hg6)
      clear hIl hr8 hg6 K6 G0 v0 v1 x2 x3 x4 x5 HP2 HP3
      go_wp2_with fail
      refine HSl.out.mono ?_
      rintro e1 w8 ⟨rfl, hw8⟩
      obtain rfl := hw8.symm
      obtain ⟨z, hz⟩ : ∃ z, decide (sgnI L.z < 0) = z := ⟨_, rfl⟩
      rw [sgn_lt] at hz
      by_cases hL0 : L.z < 0
      · have hsl : (sgnI L.z < 0) = True := by rw [← decide_eq_true_eq (p := sgnI L.z < 0), sgn_lt]; simp; exact hL0
        have hR1 : RS = 1 := by rw [HRS.out, if_pos hL0]
        subst hR1
        clear HRS
        clear hz hL0
        go_wp2
        go_ret
        exact ⟨rfl, HG6.out⟩
      · have hsl : (sgnI L.z < 0) = False := by rw [← decide_eq_true_eq (p := sgnI L.z < 0), sgn_lt]; simp; omega
        have hR1 : RS = sgnI R.z := by rw [HRS.out, if_neg hL0]
        subst hR1
        clear HRS
        clear hz hL0
        obtain ⟨PQ, hPQ⟩ : ∃ P : Ex, P = ⟨p.z * q.z, p.e + q.e⟩ := ⟨_, rfl⟩
        obtain ⟨P2, hP2⟩ : ∃ P : Ex, P = ⟨p.z * q.z, p.e + q.e + 2⟩ := ⟨_, rfl⟩
        have hPz : PQ.z = P2.z := by rw [hPQ, hP2]
        have hPe : IntKind.i64.wrap (PQ.e + 2) = P2.e := by rw [hPQ, hP2]; exact wrap_in (by simp only; omega) (by simp only; omega)
        have HPQ := Lib.hid (And.intro hPQ hP2)
        clear hPQ hP2
        go_wp2_with fail
        refine (extimes_calls _ _ p q _ ⟨b2, rfl, HQ2.out⟩ HSM.out.2.1 ⟨b3, rfl, HQ3.out⟩ HSM.out.2.2.1).mono ?_
        intro e1 wa hh
        rw [← HPQ.out.1] at hh
        obtain ⟨bq, rfl, hIq, hgq⟩ := hh.grow
        obtain ⟨y0, y1⟩ : wa.cell? ⟨B8, 0, none⟩ = some (.pointer (some ⟨bl, 0, none⟩)) ∧ wa.cell? ⟨B8, 1, none⟩ = some (.int .i64 L.e) := ⟨cell_ext hgq y0, cell_ext hgq y1⟩
        have hsa := hgq.size
        clear hh z2 z3 z4 z5
        go_upto_region 14 with fail
        obtain ⟨w7, hw7⟩ : ∃ w7, w7 = wa.alloc (.cells #[.pointer (some ⟨bq, 0, none⟩), .int .i64 P2.e] 120) := ⟨_, rfl⟩
        have hg7 : wa.grownBy w7 none := by rw [hw7]; exact grown_alloc _ _ _
        have r9 : w7.heap[wa.heap.size]? = some (.cells #[.pointer (some ⟨bq, 0, none⟩), .int .i64 P2.e] 120 (0, 0)) := by
          rw [hw7]
          exact heap_alloc_new wa _
        rw [← hw7]
        obtain ⟨v0, v1⟩ := row2 r9
        have HG7 := Lib.hid (grown_trans HG6.out (grown_trans hgq hg7))
        have HQ7 : Hid (IR w7 bq P2.z) := by rw [← hPz]; exact hIq.grown0 hg7
        have HL7 := Lib.hid (HL6.out.grown0 (grown_trans hgq hg7))
        have K6 : Hid (∀ w' : World, w7.grownBy w' none → w'.cell? ⟨B8, 0, none⟩ = some (.pointer (some ⟨bl, 0, none⟩)) ∧ w'.cell? ⟨B8, 1, none⟩ = some (.int .i64 L.e) ∧ w'.cell? ⟨wa.heap.size, 0, none⟩ = some (.pointer (some ⟨bq, 0, none⟩)) ∧ w'.cell? ⟨wa.heap.size, 1, none⟩ = some (.int .i64 P2.e) ∧ w7.grownBy w' none) := fun w' h =>
          ⟨cell_ext h (cell_ext hg7 y0), cell_ext h (cell_ext hg7 y1), cell_ext h v0, cell_ext h v1, h⟩
        have G0 : Hid (∀ n, w7.grownBy (w7.drewN n) none) := fun n => ⟨rfl, rfl, rfl, Nat.le_refl _, fun _ _ _ => rfl⟩
        have hfd : ∀ (x y : Value) (W : World), (Instr.field 120 (.agg #[x, y]) 0).run Tryz.prog W = .ok x W := fun _ _ _ => by kernel_rfl
        clear hw7 r9 y0 y1 v0 v1 hg7 hgq hIq HL6
        go_region_held3 (fun w' : World => w'.cell? ⟨B8, 0, none⟩ = some (.pointer (some ⟨bl, 0, none⟩)) ∧ w'.cell? ⟨B8, 1, none⟩ = some (.int .i64 L.e) ∧ w'.cell? ⟨wa.heap.size, 0, none⟩ = some (.pointer (some ⟨bq, 0, none⟩)) ∧ w'.cell? ⟨wa.heap.size, 1, none⟩ = some (.int .i64 P2.e) ∧ w7.grownBy w' none)
          (first
            | exact K6.out _ (G0.out _)
            | exact K6.out _ (G0.out 1)
            | exact K6.out _ hGb
            | exact K6.out _ hGa)
          (first
            | (go_at_call 131; go_split_ands; refine (extimes_calls _ _ L L _ ⟨bl, rfl, HL7.out.grown0 (by assumption)⟩ HSM.out.2.2.2.2.2.2.1 ⟨bl, rfl, HL7.out.grown0 (by assumption)⟩ HSM.out.2.2.2.2.2.2.1).mono ?_; intro e1 wb hh; rw [show (⟨L.z * L.z, L.e + L.e⟩ : Ex) = S from HTS.out.2.symm] at hh; obtain ⟨bs, rfl, hIs, hgs⟩ := hh.grow; have hGa := grown_trans (show w7.grownBy _ none by assumption) hgs; have HIs := Lib.hid hIs; clear hh hIs)
            | (go_at_call 130; go_split_ands; refine (exminus_calls _ _ P2 S _ ⟨bq, rfl, HQ7.out.grown0 (by assumption)⟩ (by rw [HPQ.out.2]; exact HSM.out.2.2.2.2.2.2.2.1) ⟨bs, rfl, HIs.out⟩ (by rw [HTS.out.2]; exact HSM.out.2.2.2.2.2.2.2.2)).mono ?_; intro e1 wd hh; rw [HTS.out.2, HPQ.out.2, ← HEQ.out.2.2.2] at hh; obtain ⟨br, rfl, hIr, hgr⟩ := hh.grow; have hGb := grown_trans (show w7.grownBy _ none by assumption) hgr; have HIr := Lib.hid hIr; clear hh hIr)
            | (go_at_call 109; go_split_ands; refine (isign_calls br R.z _ HIr.out).mono ?_; rintro e1 w9 ⟨rfl, hw9⟩; obtain rfl := hw9.symm))
        all_goals
          have HF := Lib.hid (grown_trans HG7.out hGb)
          go_wp2
          go_ret
          exact ⟨rfl, by first | exact HF.out | exact grown_trans HF.out ⟨rfl, rfl, rfl, Nat.le_refl _, fun _ _ _ => rfl⟩⟩
end Go.Proofs.YtjbdadhggejoiaaGreatDoor

namespace Go.Proofs.YtjbdadhggejoiaaGreatDoor
open Go.RowKit
set_option maxRecDepth 100000
attribute [local go_sem] run_frombits run_bits store_f store_c

theorem order_inf {x : Nat} (h : Fin64 x) : Ieee.double.order x 9218868437227405312 = some .lt := by
  unfold Ieee.Format.order
  rw [read_fin h]
  rfl
theorem order_inf' {x : Nat} (h : Fin64 x) : Ieee.double.order 9218868437227405312 x = some .gt := by
  unfold Ieee.Format.order
  rw [read_fin h]
  rfl
theorem order_ninf' {x : Nat} (h : Fin64 x) : Ieee.double.order 18442240474082181120 x = some .lt := by
  unfold Ieee.Format.order
  rw [read_fin h]
  rfl
theorem order_ninf {x : Nat} (h : Fin64 x) : Ieee.double.order x 18442240474082181120 = some .gt := by
  unfold Ieee.Format.order
  rw [read_fin h]
  rfl
theorem infm_calls (w : World) : Calls Tryz.prog 8 #[.int .i64 (-1)] w fun e w' => e = .returned (.float .f64 18442240474082181120) ∧ w = w' := by
  go_enter Tryz.func8, Tryz.ntmps8
  go_wp2
  go_ret
  exact ⟨rfl, rfl⟩
theorem isnan_self (x : Nat) (w : World) (h : Ieee.double.order x x = some .eq) : Calls Tryz.prog 17 #[.float .f64 x] w fun e w' => e = .returned (.bool false) ∧ w = w' := by
  have ho : (FloatKind.f64.format.order x x != some Ordering.eq) = false := by rw [dbl, h]; rfl
  go_enter Tryz.func17, Tryz.ntmps17
  go_wp2
  go_ret
  exact ⟨rfl, rfl⟩
theorem signbit_calls (x : Nat) (w : World) (h : x < 18446744073709551616) : Calls Tryz.prog 20 #[.float .f64 x] w fun e w' => e = .returned (.bool (fneg x)) ∧ w = w' := by
  have hw : fneg x = decide (wrap64 (x : Int) < 0) := by
    unfold fneg wrap64
    rw [Bool.eq_iff_iff]
    simp only [beq_iff_eq, decide_eq_true_eq]
    omega
  rw [hw]
  clear hw
  go_enter Tryz.func20, Tryz.ntmps20
  go_wp2
  go_ret
  exact ⟨rfl, rfl⟩
/-- the next float, towards y -/
theorem next_calls (x y r : Nat) (up : Bool) (w : World) (h0 : 0 < x) (h1 : x < 9218868437227405312) (hy : Ieee.double.order y y = some .eq) (hy1 : (Ieee.double.order y x == some .gt) = up) (hy2 : Ieee.double.order x y ≠ some .eq) (hr : r = if up then x + 1 else x - 1) :
    Calls Tryz.prog 7 #[.float .f64 x, .float .f64 y] w fun e w' => e = .returned (.float .f64 r) ∧ w = w' := by
  obtain ⟨hf, hn⟩ := fin_of h1
  have hz := order_pos h1 (y := 0) (by decide)
  rw [if_neg (by omega), if_neg (by omega)] at hz
  have g1 : (FloatKind.f64.format.order x y == some Ordering.eq) = false := by rw [dbl, beq_eq_false_iff_ne]; exact hy2
  have g2 : (FloatKind.f64.format.order x 0 == some Ordering.eq) = false := by rw [dbl, hz]; rfl
  have g3 : (FloatKind.f64.format.order x 0 == some Ordering.gt) = true := by rw [dbl, hz]; rfl
  have g4 : (FloatKind.f64.format.order y x == some Ordering.gt) = up := by rw [dbl]; exact hy1
  have HN := Lib.hid (fun W => isnan_calls x W hf)
  have HY := Lib.hid (fun W => isnan_self y W hy)
  clear hy hy1 hy2 hz hf hn
  subst hr
  cases up
  all_goals
    simp only [Bool.false_eq_true, if_false, if_true]
    go_enter Tryz.func7, Tryz.ntmps7
    go_wp2_with (first
      | (go_at_call_of 17 (Value.float .f64 x); refine (HN.out _).mono ?_; rintro e3 w1 ⟨rfl, rfl⟩)
      | (go_at_call_of 17 (Value.float .f64 y); refine (HY.out _).mono ?_; rintro e3 w1 ⟨rfl, rfl⟩))
    go_ret
    exact ⟨rfl, rfl⟩
theorem next_up (x : Nat) (w : World) (h0 : 0 < x) (h1 : x < 9218868437227405312) : Calls Tryz.prog 7 #[.float .f64 x, .float .f64 9218868437227405312] w fun e w' => e = .returned (.float .f64 (x + 1)) ∧ w = w' :=
  next_calls x _ (x + 1) true w h0 h1 rfl (by rw [order_inf' (fin_of h1).1]; rfl) (by rw [order_inf (fin_of h1).1]; decide) (by simp)
theorem next_down (x : Nat) (w : World) (h0 : 0 < x) (h1 : x < 9218868437227405312) : Calls Tryz.prog 7 #[.float .f64 x, .float .f64 18442240474082181120] w fun e w' => e = .returned (.float .f64 (x - 1)) ∧ w = w' :=
  next_calls x _ (x - 1) false w h0 h1 rfl (by rw [order_ninf' (fin_of h1).1]; rfl) (by rw [order_ninf (fin_of h1).1]; decide) (by simp)
theorem next_zero (x : Nat) (w : World) (h0 : 0 < x) (h1 : x < 9218868437227405312) : Calls Tryz.prog 7 #[.float .f64 x, .float .f64 0] w fun e w' => e = .returned (.float .f64 (x - 1)) ∧ w = w' :=
  next_calls x _ (x - 1) false w h0 h1 rfl (by rw [order_pos (by decide) h1, if_pos h0]; rfl) (by rw [order_pos h1 (by decide), if_neg (by omega), if_neg (by omega)]; decide) (by simp)
theorem stepu_calls (x : Nat) (w : World) (h0 : 0 < x) (h1 : x < 9218868437227405312) : Calls Tryz.prog 99 #[.float .f64 x, .int .i64 1] w fun e w' => e = .returned (.float .f64 (x + 1)) ∧ w = w' := by
  have HI := Lib.hid (fun W => inf_calls W)
  have HN := Lib.hid (fun W => next_up x W h0 h1)
  go_enter Tryz.func99, Tryz.ntmps99
  go_wp2_with fail
  refine (HI.out _).mono ?_
  rintro e3 w1 ⟨rfl, rfl⟩
  go_wp2_with fail
  refine (HN.out _).mono ?_
  rintro e3 w1 ⟨rfl, rfl⟩
  go_wp2
  go_ret
  exact ⟨rfl, rfl⟩
theorem stepd_calls (x : Nat) (w : World) (h0 : 0 < x) (h1 : x < 9218868437227405312) : Calls Tryz.prog 99 #[.float .f64 x, .int .i64 (-1)] w fun e w' => e = .returned (.float .f64 (x - 1)) ∧ w = w' := by
  have HI := Lib.hid (fun W => infm_calls W)
  have HN := Lib.hid (fun W => next_down x W h0 h1)
  go_enter Tryz.func99, Tryz.ntmps99
  go_wp2_with fail
  refine (HI.out _).mono ?_
  rintro e3 w1 ⟨rfl, rfl⟩
  go_wp2_with fail
  refine (HN.out _).mono ?_
  rintro e3 w1 ⟨rfl, rfl⟩
  go_wp2
  go_ret
  exact ⟨rfl, rfl⟩
end Go.Proofs.YtjbdadhggejoiaaGreatDoor
