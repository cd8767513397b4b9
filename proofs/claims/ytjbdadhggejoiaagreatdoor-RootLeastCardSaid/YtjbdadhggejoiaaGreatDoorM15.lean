/- 'big.Int': sums, quotients, shifts down, single words.
   'dyad': a number of the program as a value; what it stands for; and the way back.
   'dyad': Valid, Sign, Top.
   'dyad': valid of two or three numbers. -/
import Derived.Test.YtjbdadhggejoiaaGreatDoorM14

namespace Go.Proofs.YtjbdadhggejoiaaGreatDoor
open Go.RowKit
set_option maxRecDepth 100000

set_option maxHeartbeats 4000000 in
theorem iadd_calls (b bx by' : Nat) (x y : Int) (w : World) (h2 : Two w b) (hx : IR w bx x) (hy : IR w by' y) (hl : (words x.natAbs).length ≤ 536870912) (hl2 : (words y.natAbs).length ≤ 536870912) :
    Calls Tryz.prog 87 #[.pointer (some ⟨b, 0, none⟩), .pointer (some ⟨bx, 0, none⟩), .pointer (some ⟨by', 0, none⟩)] w fun e w' => Put w b (x + y) e w' := by
  obtain ⟨A, c, g1, g2, hc, hcm, hW⟩ := hy.open
  have hp := isum_calls b bx c y.natAbs (decide (y < 0)) A x (x + y) w.drew h2 hx hl hl2 hc hW (by
    by_cases h : y < 0
    · rw [decide_eq_true h]; simp; omega
    · rw [decide_eq_false h]; simp; omega)
  obtain ⟨L, hL⟩ : ∃ L, L = (words y.natAbs).length := ⟨_, rfl⟩
  rw [← hL] at g2 hp
  obtain ⟨d, hd⟩ : ∃ d, d = decide (y < 0) := ⟨_, rfl⟩
  rw [← hd] at g1 hp
  have HP := Lib.hid hp
  clear hp hW hc hL hd h2 hx hy
  go_enter Tryz.func87, Tryz.ntmps87
  go_wp2_with fail
  go_region_with (go_at_call 122; refine HP.out.mono ?_; rintro e w2 ⟨rfl, hI, hg⟩; have HI := Lib.hid hI; clear hI)
  all_goals
    go_wp2
    go_ret
    exact ⟨rfl, HI.out, grown_of_drew hg⟩
set_option maxHeartbeats 4000000 in
theorem isub_calls (b bx by' : Nat) (x y : Int) (w : World) (h2 : Two w b) (hx : IR w bx x) (hy : IR w by' y) (hl : (words x.natAbs).length ≤ 536870912) (hl2 : (words y.natAbs).length ≤ 536870912) :
    Calls Tryz.prog 139 #[.pointer (some ⟨b, 0, none⟩), .pointer (some ⟨bx, 0, none⟩), .pointer (some ⟨by', 0, none⟩)] w fun e w' => Put w b (x - y) e w' := by
  obtain ⟨A, c, g1, g2, hc, hcm, hW⟩ := hy.open
  have hp := isum_calls b bx c y.natAbs (!decide (y < 0)) A x (x - y) w.drew h2 hx hl hl2 hc hW (by
    by_cases h : y < 0
    · rw [decide_eq_true h]; simp; omega
    · rw [decide_eq_false h]; simp; omega)
  obtain ⟨L, hL⟩ : ∃ L, L = (words y.natAbs).length := ⟨_, rfl⟩
  rw [← hL] at g2 hp
  obtain ⟨d, hd⟩ : ∃ d, d = decide (y < 0) := ⟨_, rfl⟩
  rw [← hd] at g1 hp
  have HP := Lib.hid hp
  clear hp hW hc hL hd h2 hx hy
  go_enter Tryz.func139, Tryz.ntmps139
  go_wp2_with fail
  go_region_with (go_at_call 122; refine HP.out.mono ?_; rintro e w2 ⟨rfl, hI, hg⟩; have HI := Lib.hid hI; clear hI)
  all_goals
    go_wp2
    go_ret
    exact ⟨rfl, HI.out, grown_of_drew hg⟩
/-- what a method leaves that sets two receivers, r first -/
def Put2 (w : World) (b r : Nat) (z m : Int) (e : Ending) (w' : World) : Prop := e = .returned (.tuple #[.pointer (some ⟨b, 0, none⟩), .pointer (some ⟨r, 0, none⟩)]) ∧ IR w' b z ∧ IR w' r m ∧ ∃ w1, w.grownBy w1 (some r) ∧ w1.grownBy w' (some b)
set_option maxHeartbeats 4000000 in
theorem iquorem_calls (b bx by' br : Nat) (n d : Nat) (w : World) (h2 : Two w b) (h3 : Two w br) (hbr : b ≠ br) (hx : IR w bx (n : Int)) (hy : IR w by' (d : Int)) (hd : d ≠ 0) (hl : (words n).length ≤ 536870912) (hl2 : (words d).length ≤ 536870912) :
    Calls Tryz.prog 108 #[.pointer (some ⟨b, 0, none⟩), .pointer (some ⟨bx, 0, none⟩), .pointer (some ⟨by', 0, none⟩), .pointer (some ⟨br, 0, none⟩)] w fun e w' => Put2 w b br (n / d : Nat) (n % d : Nat) e w' := by
  have hbx := hx.lt
  have hby := hy.lt
  obtain ⟨A, c, g1, g2, hc, hcm, hW⟩ := hx.open
  obtain ⟨A2, c2, g3, g4, hc2, hcm2, hW2⟩ := hy.open
  rw [Int.natAbs_natCast] at g2 hc hW
  rw [Int.natAbs_natCast] at g4 hc2 hW2
  rw [decide_eq_false (by omega : ¬ ((n : Int) < 0))] at g1
  rw [decide_eq_false (by omega : ¬ ((d : Int) < 0))] at g3
  have hn := ndiv_calls A A2 c c2 n d w.drew hc hcm hc2 hl hl2 hd hW hW2
  obtain ⟨L, hL⟩ : ∃ L, L = (words n).length := ⟨_, rfl⟩
  obtain ⟨L2, hL2⟩ : ∃ L, L = (words d).length := ⟨_, rfl⟩
  rw [← hL] at g2 hn
  rw [← hL2] at g4 hn
  obtain ⟨q, hq⟩ : ∃ q, q = n / d := ⟨_, rfl⟩
  obtain ⟨r, hr⟩ : ∃ r, r = n % d := ⟨_, rfl⟩
  rw [← hq, ← hr] at hn ⊢
  have HNN := Lib.hid hn
  have H2 := Lib.hid h2
  have H3 := Lib.hid h3
  clear hn hW hc hL h2 hx hW2 hc2 hL2 hy hl hl2 hq hr h3
  go_enter Tryz.func108, Tryz.ntmps108
  go_wp2_with fail
  go_region_held3 (fun w' : World => w'.cell? ⟨bx, 1, none⟩ = some (.slice A L c) ∧ w'.cell? ⟨by', 1, none⟩ = some (.slice A2 L2 c2))
    (first
      | exact ⟨g2, g4⟩
      | exact ⟨cell_keep HB.out hbx g2, cell_keep HB.out hby g4⟩)
    ((go_at_call 134; refine HNN.out.mono ?_; rintro e w1 ⟨X, cx, Y, cy, rfl, hcx, hcmx, hcy, hcmy, hWX, hWY, hb⟩;
       have HB := Lib.hid hb; have HX := Lib.hid hWX; have HY := Lib.hid hWY;
       clear hWX hWY hb))
  have g1' := cell_keep HB.out hbx g1
  have g3' := cell_keep HB.out hby g3
  clear g1 g3 g2 g4
  go_wp2_with fail
  go_quiet (fail)
  have HB2 : Hid (w.grownBy (w1.drewN nq) none) := ⟨HB.out.os, HB.out.tape, HB.out.output, HB.out.size, fun k hk _ => HB.out.block k hk⟩
  have HPr := Lib.hid (put_calls br cy r r false Y (w1.drewN nq) (H3.out.grown0 HB2.out) (by simp) (by simp) hcy hcmy HY.out)
  go_wp2_with fail
  refine HPr.out.mono ?_
  rintro e w2 ⟨rfl, hIr, hgr⟩
  have h2' : Two w2 b := (H2.out.grown0 HB2.out).grown hgr hbr
  have HPq := Lib.hid (put_calls b cx q q false X w2 h2' (by simp) (by simp) hcx hcmx ((show Ws (w1.drewN nq) (w1.drewN nq).heap.size X (words q) from HX.out).grown (Nat.le_refl _) hgr (H3.out.grown0 HB2.out)))
  have HIr := Lib.hid hIr
  have H2' := Lib.hid h2'
  clear hIr h2'
  go_wp2_with fail
  refine HPq.out.mono ?_
  rintro e w3 ⟨rfl, hIq, hgq⟩
  have hres : Put2 w b br (q : Int) (r : Int) (.returned (.tuple #[.pointer (some ⟨b, 0, none⟩), .pointer (some ⟨br, 0, none⟩)])) w3 :=
    ⟨rfl, hIq, HIr.out.grown hgq (fun e => hbr e.symm) H2'.out, w2, grown_trans ⟨HB2.out.os, HB2.out.tape, HB2.out.output, HB2.out.size, fun k hk _ => HB2.out.block k hk (fun e => by cases e)⟩ hgr, hgq⟩
  have HR := Lib.hid hres
  clear hres hIq
  go_wp2
  go_ret2
  exact HR.out
set_option maxHeartbeats 4000000 in
theorem irsh_calls (b bx k n : Nat) (w : World) (h2 : Two w b) (hx : IR w bx (n : Int)) (hl : (words n).length ≤ 1073741824) (hk : k < 18446744073709551616) :
    Calls Tryz.prog 117 #[.pointer (some ⟨b, 0, none⟩), .pointer (some ⟨bx, 0, none⟩), .int .u64 k] w fun e w' => Put w b (n / 2 ^ k : Nat) e w' := by
  have hbx := hx.lt
  obtain ⟨A, c, g1, g2, hc, hcm, hW⟩ := hx.open
  rw [Int.natAbs_natCast] at g2 hc hW
  rw [decide_eq_false (by omega : ¬ ((n : Int) < 0))] at g1
  have hn := nshr_calls A c n k w hc hcm hl hk hW
  obtain ⟨L, hL⟩ : ∃ L, L = (words n).length := ⟨_, rfl⟩
  rw [← hL] at g2 hn
  obtain ⟨q, hq⟩ : ∃ q, q = n / 2 ^ k := ⟨_, rfl⟩
  rw [← hq] at hn ⊢
  have HNN := Lib.hid hn
  have H2 := Lib.hid h2
  clear hn hW hc hL h2 hx hl hq
  go_enter Tryz.func117, Tryz.ntmps117
  go_wp2_with fail
  refine HNN.out.mono ?_
  rintro e w1 ⟨X, c3, rfl, hc3, hcm3, hWX, hb⟩
  have HX := Lib.hid hWX
  have g1' : w1.cell? ⟨bx, 0, none⟩ = some (.bool false) := (hb.cell (p := ⟨bx, 0, none⟩) hbx).trans g1
  have g2' : w1.cell? ⟨bx, 1, none⟩ = some (.slice A L c) := (hb.cell (p := ⟨bx, 1, none⟩) hbx).trans g2
  clear g1 g2 hWX
  go_wp2_with fail
  go_quiet (fail)
  have HB2 : Hid (w.grownBy (w1.drewN nq) none) := ⟨hb.os, hb.tape, hb.output, hb.size, fun k hk _ => hb.block k hk⟩
  have HP := Lib.hid (put_calls b c3 q q false X (w1.drewN nq) (H2.out.grown0 HB2.out) (by simp) (by simp) hc3 hcm3 HX.out)
  go_wp2_with fail
  refine HP.out.mono ?_
  rintro e w2 ⟨rfl, hI, hg⟩
  have HI := Lib.hid hI
  clear hI
  go_wp2
  go_ret
  exact ⟨rfl, HI.out, grown_trans ⟨HB2.out.os, HB2.out.tape, HB2.out.output, HB2.out.size, fun k hk _ => HB2.out.block k hk (fun e => by cases e)⟩ hg⟩
set_option maxHeartbeats 4000000 in
theorem ibit_calls (bx n : Nat) (w : World) (hx : IR w bx (n : Int)) (hl : (words n).length ≤ 1073741824) :
    Calls Tryz.prog 141 #[.pointer (some ⟨bx, 0, none⟩), .int .i64 0] w fun e w' => e = .returned (.int .u64 (n % 2 : Nat)) ∧ w' = w := by
  obtain ⟨A, c, g1, g2, hc, hcm, hW⟩ := hx.open
  rw [Int.natAbs_natCast] at g2 hc hW
  by_cases h0 : n = 0
  · subst h0
    have e0 : (words 0).length = 0 := rfl
    rw [e0] at g2
    clear hW hc hx
    go_enter Tryz.func141, Tryz.ntmps141
    go_wp2
    go_ret
    exact ⟨rfl, rfl⟩
  · have hpos : 0 < (words n).length := by
      refine Nat.pos_of_ne_zero fun e => h0 ?_
      have := val_words n
      rw [List.eq_nil_of_length_eq_zero e] at this
      exact this.symm
    obtain ⟨ad, rfl, hab, g3⟩ := hW.at_ 0 hpos
    change w.cell? ad = _ at g3
    have hx0 : (words n)[0]'hpos = n % 4294967296 := by
      rw [words_at hpos]; simp
    rw [hx0] at g3
    obtain ⟨t, ht⟩ : ∃ t, t = n % 4294967296 := ⟨_, rfl⟩
    rw [← ht] at g3
    have htb : t < 4294967296 := by omega
    have hand : bits .and .u64 (t : Int) 1 = ((n % 2 : Nat) : Int) := by
      have := u64_and_nat t 1 (by omega) (by omega)
      rw [Nat.and_one_is_mod] at this
      rw [show ((1 : Nat) : Int) = 1 from rfl] at this
      rw [this]
      omega
    obtain ⟨p, hp⟩ : ∃ p, p = n % 2 := ⟨_, rfl⟩
    rw [← hp] at hand ⊢
    obtain ⟨L, hL⟩ : ∃ L, L = (words n).length := ⟨_, rfl⟩
    rw [← hL] at g2 hpos
    clear hW hc hx hx0 ht hp hL hl
    go_enter Tryz.func141, Tryz.ntmps141
    go_wp2
    go_ret
    exact ⟨rfl, rfl⟩
set_option maxHeartbeats 4000000 in
theorem iuint_calls (bx n : Nat) (w : World) (hx : IR w bx (n : Int)) (hn : n < 18446744073709551616) :
    Calls Tryz.prog 143 #[.pointer (some ⟨bx, 0, none⟩)] w fun e w' => e = .returned (.int .u64 n) ∧ w' = w := by
  obtain ⟨A, c, g1, g2, hc, hcm, hW⟩ := hx.open
  rw [Int.natAbs_natCast] at g2 hc hW
  have hl2 : (words n).length ≤ 2 := by
    refine Nat.le_of_not_lt fun h => ?_
    have h1 := val_ge (canon_of n) (fun e => by rw [e] at h; simp at h)
    rw [val_words] at h1
    have : (4294967296 : Nat) ^ 2 ≤ 4294967296 ^ ((words n).length - 1) := Nat.pow_le_pow_right (by decide) (by omega)
    omega
  have HW := Lib.hid hW
  obtain ⟨l, hln⟩ : ∃ l, l = words n := ⟨_, rfl⟩
  rw [← hln] at g2 HW hc hl2
  have Hl := Lib.hid hln
  clear hW hx hln
  go_enter Tryz.func143, Tryz.ntmps143
  go_wp2
  go_loopw [3, 11] (fun v3 v11 wr => ∃ i : Nat, i ≤ l.length ∧ v11 = .int .i64 i ∧ v3 = .int .u64 (val (l.take i) : Nat) ∧ w = wr) (fun _ v11 _ => l.length - (intOf v11).toNat)
  case atStart => exact ⟨0, by omega, rfl, by simp [val], rfl⟩
  case round =>
    obtain ⟨i, hi, rfl, rfl, rfl⟩ := hrel
    by_cases hlt : i < l.length
    · obtain ⟨ad, rfl, hab, g3⟩ := HW.out.at_ i hlt
      have hstep := val_take hlt
      obtain ⟨x, hx⟩ : ∃ x, x = l[i] := ⟨_, rfl⟩
      rw [← hx] at g3 hstep
      have hxw : x < 4294967296 := by rw [hx]; have := words_isW n; rw [← Hl.out] at this; exact this _ (List.getElem_mem _)
      clear hx
      rcases (by omega : i = 0 ∨ i = 1) with rfl | rfl
      · have hv0 : val (l.take 0) = 0 := by simp [val]
        rw [hv0] at hstep ⊢
        simp only [Nat.pow_zero, Nat.one_mul, Nat.zero_add] at hstep
        have HS := Lib.hid hstep
        clear hstep hv0
        have hor : bits .or .u64 0 (x : Int) = (x : Int) := by
          have := u64_or_nat 0 x (by omega) (by omega)
          simpa using this
        change w.cell? ad = _ at g3
        rw [show (((0 : Nat)) : Int) = 0 from rfl]
        go_wp2
        exact ⟨⟨1, by omega, rfl, by rw [HS.out], by first | rfl | trivial⟩, by simp [intOf]; omega⟩
      · have hv0 : val (l.take 1) < 4294967296 := by
          have := val_lt_len (l := l.take 1) (n := 1) (fun y hy => words_isW n y (by rw [← Hl.out]; exact List.mem_of_mem_take hy)) (by rw [List.length_take]; omega)
          simpa using this
        obtain ⟨y, hy⟩ : ∃ y, y = val (l.take 1) := ⟨_, rfl⟩
        rw [← hy] at hstep hv0 ⊢
        have hor := shr_or hv0 hxw
        have HS := Lib.hid hstep
        clear hstep hy
        rw [addr_succ _ _ (by omega)] at g3
        rw [show (((1 : Nat)) : Int) = 1 from rfl]
        go_wp2
        exact ⟨⟨2, by omega, rfl, by rw [HS.out]; go_num, by first | rfl | trivial⟩, by simp [intOf]; omega⟩
    · obtain rfl : i = l.length := by omega
      rw [List.take_length, Hl.out, val_words]
      go_wp2
      go_ret
      exact ⟨rfl, rfl⟩
end Go.Proofs.YtjbdadhggejoiaaGreatDoor

namespace Go.Proofs.YtjbdadhggejoiaaGreatDoor
open Go.RowKit
set_option maxRecDepth 100000

/-- the value of a sign, words and an exponent -/
def NV (neg : Bool) (A : Option Addr) (n c : Nat) (e : Int) : Value := .agg #[.bool neg, .slice A n c, .int .i64 e]
/-- it reads as the digits m -/
def NR (w : World) (v : Value) (neg : Bool) (m : Nat) (e : Int) : Prop := ∃ A c, v = NV neg A (words m).length c e ∧ (words m).length ≤ c ∧ c ≤ maxLen ∧ Ws w w.heap.size A (words m)
def sg (neg : Bool) (m : Nat) : Int := if neg then -(m : Int) else m

theorem two_new' {w : World} {b : Nat} (t : TypeId) (h : w.heap.size = b) : Two (w.alloc (.cells #[.bool false, .slice none 0 0] t)) b := by
  subst h
  exact two_new w t
theorem cell_new {w : World} {b : Nat} {cs : Array Value} {t : TypeId} (h : w.heap.size = b) (i : Nat) : (w.alloc (.cells cs t)).cell? ⟨b, i, none⟩ = cs[i]? := by
  subst h
  exact cell_of_row _ _ i cs t _ (heap_alloc_new w _)
theorem alloc_at (w : World) (o o2 : Obj) : ((w.alloc o).alloc o2).heap[w.heap.size]? = some o := by
  have h := Below.heap_alloc (w.alloc o) o2 w.heap.size (by simp)
  rw [h]
  show (w.heap.push o)[w.heap.size]? = _
  simp
theorem row_cells {w : World} {b : Nat} {cs : Array Value} {t : TypeId} (h : w.heap[b]? = some (.cells cs t (0, 0))) (i : Nat) : w.cell? ⟨b, i, none⟩ = cs[i]? ∧ w.frozen? ⟨b, i, none⟩ = false :=
  ⟨cell_of_row w b i cs t _ h, frozen_of_row w b i cs t h⟩
/-- a block without words -/
def Rec (w : World) (b : Nat) : Prop := ∃ cs t, w.heap[b]? = some (.cells cs t (0, 0)) ∧ ∀ (i : Nat) (u : Value), cs[i]? = some u → ∀ n, u ≠ .int .u32 n
theorem Rec.set {w : World} {b b' i : Nat} {v : Value} (h : Rec w b) (hv : ∀ n, v ≠ .int .u32 n) (h' : Rec w b') : Rec (w.setCell ⟨b, i, none⟩ v) b' := by
  by_cases e : b' = b
  · subst e
    obtain ⟨cs, t, h1, h2⟩ := h
    refine ⟨cs.setIfInBounds i v, t, heap_setCell_same w b' i cs t v h1, fun j u hu => ?_⟩
    rw [Array.getElem?_setIfInBounds] at hu
    split at hu
    · split at hu
      · cases hu; exact hv
      · cases hu
    · exact h2 j u hu
  · obtain ⟨cs, t, h1, h2⟩ := h'
    exact ⟨cs, t, (heap_setCell_other w _ b' v e).trans h1, h2⟩
theorem Ws.rec {w : World} {B b i : Nat} {v : Value} {A : Option Addr} {l : List Nat} (hw : Ws w B A l) (h : Rec w b) : Ws (w.setCell ⟨b, i, none⟩ v) B A l := by
  refine ⟨hw.1, fun h0 => ?_⟩
  obtain ⟨ad, e, hb, hc⟩ := hw.2 h0
  refine ⟨ad, e, hb, fun j u hu => ?_⟩
  have h1 := hc j u hu
  rw [← h1]
  refine World.cell?_setCell_other (h := ?_) ..
  intro e
  obtain ⟨cs, t, h2, h3⟩ := h
  have hjl : j < l.length := by
    rw [← uCells_len l]
    exact (List.getElem?_eq_some_iff.1 hu).1
  have hu2 : u = .int .u32 (l[j] : Nat) := by
    simp only [uCells, List.getElem?_map, List.getElem?_eq_getElem hjl, Option.map_some, U] at hu
    exact (Option.some.inj hu).symm
  rw [← e, cell_of_row w b i cs t _ h2] at h1
  exact h3 i u h1 _ hu2
theorem rec3 {w : World} {b : Nat} {x : Bool} {A : Option Addr} {n c : Nat} {e : Int} {t : TypeId} (h : w.heap[b]? = some (.cells #[.bool x, .slice A n c, .int .i64 e] t (0, 0))) : Rec w b := by
  refine ⟨_, t, h, fun i u hu n => ?_⟩
  match i with
  | 0 => simp at hu; subst hu; simp
  | 1 => simp at hu; subst hu; simp
  | 2 => simp at hu; subst hu; simp
  | i + 3 => simp at hu
theorem cell_alloc {w : World} {a : Addr} {v : Value} (h : w.cell? a = some v) (o : Obj) : (w.alloc o).cell? a = some v := by
  have hb := World.block_lt_of_cell? _ _ h
  exact (World.cell?_of_block (w := w) (Below.heap_alloc w o _ hb)).trans h
theorem IR.alloc {w : World} {b : Nat} {z : Int} (h : IR w b z) (o : Obj) : IR (w.alloc o) b z := h.grown0 (grown_alloc w o none)
theorem Ws.alloc' {w : World} {B : Nat} {A : Option Addr} {l : List Nat} (h : Ws w B A l) (hB : B ≤ w.heap.size) (o : Obj) : Ws (w.alloc o) (w.alloc o).heap.size A l := h.grown0 hB (grown_alloc w o none)
theorem NR.grown0 {w w' : World} {v : Value} {neg : Bool} {m : Nat} {e : Int} (h : NR w v neg m e) (hg : w.grownBy w' none) : NR w' v neg m e := by
  obtain ⟨A, c, rfl, hc, hcm, hW⟩ := h
  exact ⟨A, c, rfl, hc, hcm, hW.grown0 (Nat.le_refl _) hg⟩
theorem NR.grown {w w' : World} {b : Nat} {v : Value} {neg : Bool} {m : Nat} {e : Int} (h : NR w v neg m e) (hg : w.grownBy w' (some b)) (h2 : Two w b) : NR w' v neg m e := by
  obtain ⟨A, c, rfl, hc, hcm, hW⟩ := h
  exact ⟨A, c, rfl, hc, hcm, hW.grown (Nat.le_refl _) hg h2⟩

set_option maxHeartbeats 4000000 in
theorem value_calls (v : Value) (neg : Bool) (m : Nat) (e : Int) (w : World) (hv : NR w v neg m e) (hl : (words m).length ≤ 1048576) :
    Calls Tryz.prog 79 #[v] w fun e w' => New w (sg neg m) e w' := by
  obtain ⟨A, c, rfl, hc, hcm, hW⟩ := hv
  unfold NV
  have hset := fun o t => isetw_calls (w.heap.size + 1) c m A ((w.alloc o).alloc (.cells #[.bool false, .slice none 0 0] t)) (two_new' t (by simp)) hc (by omega) ((hW.alloc' (Nat.le_refl _) o).alloc' (Nat.le_refl _) _)
  obtain ⟨L, hL⟩ : ∃ L, L = (words m).length := ⟨_, rfl⟩
  rw [← hL] at hc hset hl ⊢
  have HS := Lib.hid hset
  clear hset hW hL
  cases neg
  · go_enter Tryz.func79, Tryz.ntmps79
    go_wp2_with fail
    refine (HS.out _ _).mono ?_
    rintro e1 w1 ⟨rfl, hI, hg⟩
    have HI := Lib.hid hI
    have g1 : w1.cell? ⟨w.heap.size, 0, none⟩ = some (.bool false) := cell_grown hg (by simp; omega) (by omega) (cell_alloc (cell_new rfl 0) _)
    have hb : Below w.heap.size w w1 := (((Below.refl _ w).alloc (Nat.le_refl _) _).alloc (by simp) _).trans (below_of_grown hg (by omega) (by simp))
    clear hI hg
    go_wp2
    go_ret
    exact ⟨_, rfl, by omega, by show IR _ _ (sg false m); simpa [sg] using HI.out, hb⟩
  · go_enter Tryz.func79, Tryz.ntmps79
    go_wp2_with fail
    refine (HS.out _ _).mono ?_
    rintro e1 w1 ⟨rfl, hI, hg⟩
    have HI := Lib.hid hI
    have g1 : w1.cell? ⟨w.heap.size, 0, none⟩ = some (.bool true) := cell_grown hg (by simp; omega) (by omega) (cell_alloc (cell_new rfl 0) _)
    have hb : Below w.heap.size w w1 := (((Below.refl _ w).alloc (Nat.le_refl _) _).alloc (by simp) _).trans (below_of_grown hg (by omega) (by simp))
    have HN := Lib.hid (ineg_calls (w.heap.size + 1) (w.heap.size + 1) m w1 hI.two hI)
    have hlt := hI.lt
    clear hI hg
    go_wp2_with fail
    refine HN.out.mono ?_
    rintro e1 w2 ⟨rfl, hI, hg⟩
    have HI2 := Lib.hid hI
    clear hI
    go_wp2
    go_ret
    exact ⟨_, rfl, by omega, by show IR _ _ (sg true m); simpa [sg] using HI2.out, hb.trans (below_of_grown hg (by omega) hlt)⟩
/-- what a call leaves that makes a number of the program, and no error -/
def NumDone (w : World) (neg : Bool) (m : Nat) (e : Int) (en : Ending) (w' : World) : Prop := ∃ v, en = .returned (.tuple #[v, .int .i64 0]) ∧ NR w' v neg m e ∧ Below w.heap.size w w'
set_option maxHeartbeats 4000000 in
theorem num_zero (b : Nat) (e : Int) (w : World) (hb : IR w b 0) :
    Calls Tryz.prog 83 #[.pointer (some ⟨b, 0, none⟩), .int .i64 e] w fun e w' => NumDone w false 0 0 e w' := by
  have hs := fun o => isign_calls b 0 (w.alloc o) (hb.alloc o)
  have e0 : sgnI 0 = 0 := rfl
  simp only [e0] at hs
  have HS := Lib.hid hs
  clear hs hb
  go_enter Tryz.func83, Tryz.ntmps83
  go_wp2_with fail
  refine (HS.out _).mono ?_
  rintro e1 w1 ⟨rfl, hw⟩
  obtain rfl := hw.symm
  go_wp2
  refine bodyPost_ret (v := .tuple #[NV false none 0 0 0, .int .i64 0]) ?_ rfl ⟨_, rfl, ⟨none, 0, rfl, Nat.le_refl _, by decide, Ws.nil⟩, (Below.refl _ w).alloc (Nat.le_refl _) _⟩
  simp [results, Tryz.results83, go_sem, NV]
set_option maxHeartbeats 4000000 in
theorem num_calls (b k o : Nat) (z e e2 : Int) (neg : Bool) (w : World) (hb : IR w b z) (hz : z.natAbs = 2 ^ k * o) (ho : o % 2 = 1) (hn : neg = decide (z < 0)) (hl : (words z.natAbs).length ≤ 1048576) (hbl : Go.bitLen o ≤ 65536) (hk : k ≤ 1099511627776)
    (he : e2 = e + k) (he1 : -65536 ≤ e2) (he2 : e2 ≤ 65536) (hT : Tab w) :
    Calls Tryz.prog 83 #[.pointer (some ⟨b, 0, none⟩), .int .i64 e] w fun e w' => NumDone w neg o e2 e w' := by
  have hp2 : 0 < 2 ^ k := Nat.two_pow_pos k
  have hz0 : z ≠ 0 := fun h => by
    subst h
    rcases Nat.mul_eq_zero.1 hz.symm with h | h <;> omega
  have hol : (words o).length ≤ 1048576 := Nat.le_trans (words_len_le (by rw [hz]; exact Nat.le_mul_of_pos_left _ hp2)) hl
  have hsg : sgnI z = -1 ∨ sgnI z = 1 := by
    unfold sgnI
    rw [if_neg hz0]
    split <;> simp
  have hsg2 : decide (sgnI z < 0) = neg := by
    unfold sgnI
    rw [if_neg hz0, hn]
    split
    · rename_i h; rw [decide_eq_true h]; rfl
    · rename_i h; rw [decide_eq_false h]; rfl
  obtain ⟨s, hs⟩ : ∃ s, s = sgnI z := ⟨_, rfl⟩
  rw [← hs] at hsg hsg2
  have hs0 : (s == 0) = false := by rw [beq_eq_false_iff_ne]; omega
  have hS := fun w' (h : IR w' b z) => isign_calls b z w' h
  rw [← hs] at hS
  have HS := Lib.hid hS
  have HZ := Lib.hid hz
  have HB := Lib.hid hb
  have HT := Lib.hid hT
  have HG := Lib.hid hsg2
  clear hz hb hT hsg2 hn hs hS hp2
  go_enter Tryz.func83, Tryz.ntmps83
  go_wp2_with fail
  refine (HS.out _ (HB.out.alloc _)).mono ?_
  rintro e1 w1 ⟨rfl, hw⟩
  obtain rfl := hw.symm
  go_wp2_with fail
  refine (iabs_calls (w.heap.size + 1) b z _ (two_new' _ (by simp)) ((HB.out.alloc _).alloc _)).mono ?_
  rintro e1 w1 ⟨rfl, hI, hg⟩
  have hblt := HB.out.lt
  have h2b := two_new' (w := w.alloc (.cells #[.bool false, .slice none 0 0, .int .i64 0] 74)) (b := w.heap.size + 1) 106 (by simp)
  have hw1 : Below w.heap.size w w1 := (((Below.refl _ w).alloc (Nat.le_refl _) _).alloc (by simp) _).trans (below_of_grown hg (by omega) (by simp))
  have hz1 : IR w1 b z := ((HB.out.alloc _).alloc _).grown hg (by omega) h2b
  have r0 : w1.heap[w.heap.size]? = some (.cells #[.bool false, .slice none 0 0, .int .i64 0] 74 (0, 0)) := (hg.block _ (by simp; omega) (fun e => by injection e with e; omega)).trans (alloc_at _ _ _)
  have HZ1 := Lib.hid hz1
  have HI1 := Lib.hid hI
  have HT1 := Lib.hid (HT.out.below hw1 HT.out.pos)
  have HW1 := Lib.hid hw1
  have R1 := Lib.hid r0
  clear hz1 hI hw1 r0 h2b hg
  have hzc := izeros_calls (w.heap.size + 1) k o z.natAbs w1 HI1.out (by rw [Int.natAbs_natCast]; omega) (by rw [Int.natAbs_natCast]; exact HZ.out) ho HT1.out
  have HZC := Lib.hid hzc
  clear hzc
  go_wp2_with fail
  refine HZC.out.mono ?_
  rintro e1 w2 ⟨rfl, hw2⟩
  obtain rfl := hw2.symm
  have hrs := irsh_calls (w.heap.size + 1) (w.heap.size + 1) k z.natAbs w1 HI1.out.two HI1.out (by omega) (by omega)
  rw [HZ.out, Nat.mul_div_cancel_left _ (Nat.two_pow_pos k)] at hrs
  have HRS := Lib.hid hrs
  clear hrs
  go_wp2_with fail
  refine HRS.out.mono ?_
  rintro e1 w2 ⟨rfl, hI, hg⟩
  have hlt1 := HI1.out.lt
  have hw2 : Below w.heap.size w w2 := HW1.out.trans (below_of_grown hg (by omega) hlt1)
  have hz2 : IR w2 b z := HZ1.out.grown hg (by omega) HI1.out.two
  have r2 := (hg.block w.heap.size (by omega) (fun e => by injection e with e; omega)).trans R1.out
  have HZ2 := Lib.hid hz2
  have HI2 := Lib.hid hI
  have HW2 := Lib.hid hw2
  have R2 := Lib.hid r2
  clear hz2 hI hw2 r2 hg
  have hbc := ibits_calls (w.heap.size + 1) o w2 HI2.out (by rw [Int.natAbs_natCast]; omega)
  rw [Int.natAbs_natCast] at hbc
  obtain ⟨bl, hbl2⟩ : ∃ bl, bl = Go.bitLen o := ⟨_, rfl⟩
  rw [← hbl2] at hbc hbl
  have HBC := Lib.hid hbc
  clear hbc hbl2
  go_wp2_with fail
  refine HBC.out.mono ?_
  rintro e1 w3 ⟨rfl, hw3⟩
  obtain rfl := hw3.symm
  have t1 : ¬ ((65536 : Int) < (bl : Int)) := by omega
  have t2 : ¬ (65536 - (k : Int) < e) := by omega
  have t3 : ¬ (e < -65536 - (k : Int)) := by omega
  go_wp2_with fail
  refine (HS.out _ HZ2.out).mono ?_
  rintro e1 w3 ⟨rfl, hw3⟩
  obtain rfl := hw3.symm
  have heI : e + (k : Int) = e2 := he.symm
  have HE := Lib.hid he
  have hb9 := HG.out
  clear t1 t2 t3 he
  go_wp2_with fail
  refine (iwords_calls (w.heap.size + 1) o _ (HI2.out.alloc _) (by rw [Int.natAbs_natCast]; omega)).mono ?_
  rintro e1 w3 h3
  rw [Int.natAbs_natCast] at h3
  obtain ⟨X, c, rfl, hc, hcm, hWX, hb3⟩ := h3
  have hlt2 := HI2.out.lt
  have r3 : w3.heap[w.heap.size]? = _ := (hb3.block w.heap.size (by simp; omega)).trans ((Below.heap_alloc _ _ _ (by omega)).trans R2.out)
  have r4 : w3.heap[w2.heap.size]? = some (.cells #[.bool neg, .slice none 0 0, .int .i64 e2] 74 (0, 0)) := (hb3.block w2.heap.size (by simp)).trans (heap_alloc_new _ _)
  obtain ⟨x0, y0⟩ := row_cells r3 0
  obtain ⟨x1, y1⟩ := row_cells r3 1
  obtain ⟨x2, y2⟩ := row_cells r3 2
  obtain ⟨x3, y3⟩ := row_cells r4 0
  obtain ⟨x4, y4⟩ := row_cells r4 1
  obtain ⟨x5, y5⟩ := row_cells r4 2
  have hsz := hb3.size
  simp only [World.size_alloc] at hsz
  have HWX := Lib.hid hWX
  have HB3 : Hid (Below w.heap.size w w3) := (HW2.out.alloc (by omega) _).trans (hb3.mono (by simp; omega))
  have R3 := Lib.hid r3
  have R4 := Lib.hid r4
  clear hWX hb3 r3 r4 hb9
  change w3.cell? _ = some _ at x0 x1 x2 x3 x4 x5
  go_wp2
  have k1 := rec3 R3.out
  have k2 := rec3 R4.out
  have n1 : ∀ n, (Value.slice X (words o).length c) ≠ .int .u32 n := fun n => by simp
  have n0 : ∀ n, (Value.bool neg) ≠ .int .u32 n := fun n => by simp
  have s1 := HWX.out.rec (i := 1) (v := .slice X (words o).length c) k2
  have k3 := Rec.set (i := 1) k2 n1 k1
  have s2 := s1.rec (i := 0) (v := .bool neg) k3
  have k4 := Rec.set (i := 0) k3 n0 k3
  have s3 := s2.rec (i := 1) (v := .slice X (words o).length c) k4
  have k5 := Rec.set (i := 1) k4 n1 k4
  have s4 := s3.rec (i := 2) (v := .int .i64 e2) k5
  refine bodyPost_ret (v := .tuple #[NV neg X (words o).length c e2, .int .i64 0]) ?_ rfl ⟨_, rfl, ⟨X, c, rfl, hc, hcm, by simpa using s4⟩, (((HB3.out.setCell (by show w.heap.size ≤ w2.heap.size; omega) _).setCell (Nat.le_refl _) _).setCell (Nat.le_refl _) _).setCell (Nat.le_refl _) _⟩
  clear s1 s2 s3 s4 k1 k2 k3 k4 k5 n1 n0
  simp [results, Tryz.results83, go_sem, NV, *]
  trace_state
end Go.Proofs.YtjbdadhggejoiaaGreatDoor

namespace Go.Proofs.YtjbdadhggejoiaaGreatDoor
open Go.RowKit
set_option maxRecDepth 100000

def Ok (neg : Bool) (m : Nat) (e : Int) : Prop := (m = 0 ∧ e = 0 ∧ neg = false) ∨ (m % 2 = 1 ∧ (words m).length ≤ 2048 ∧ -65536 ≤ e ∧ e ≤ 65536)
theorem Ok.len {neg : Bool} {m : Nat} {e : Int} (h : Ok neg m e) : (words m).length ≤ 2048 := by
  rcases h with ⟨rfl, _⟩ | ⟨_, h, _⟩
  · simp [words_zero]
  · exact h
theorem odd_first {m : Nat} (h : m % 2 = 1) : ∃ h0 : 0 < (words m).length, ∃ x, (words m)[0] = x ∧ x < 4294967296 ∧ bits .and .u32 (x : Int) 1 = 1 := by
  have hpos : 0 < (words m).length := by
    refine Nat.pos_of_ne_zero fun e => ?_
    have := val_words m
    rw [List.eq_nil_of_length_eq_zero e] at this
    simp only [val] at this
    omega
  refine ⟨hpos, _, rfl, words_isW m _ (List.getElem_mem _), ?_⟩
  have hx : (words m)[0] % 2 = 1 := by
    rw [words_at hpos]
    omega
  have hw := words_isW m _ (List.getElem_mem hpos)
  have := u32_and_nat (words m)[0] 1 hw (by omega)
  rw [Nat.and_one_is_mod, hx] at this
  exact this

set_option maxHeartbeats 4000000 in
theorem dvalid_calls (v : Value) (neg : Bool) (m : Nat) (e : Int) (w : World) (hv : NR w v neg m e) (ho : Ok neg m e) :
    Calls Tryz.prog 76 #[v] w fun en w' => en = .returned (.bool true) ∧ w.grownBy w' none := by
  obtain ⟨A, c, rfl, hc, hcm, hW⟩ := hv
  unfold NV
  rcases ho with ⟨rfl, rfl, rfl⟩ | ⟨hm, hl, he1, he2⟩
  · have e0 : (words 0).length = 0 := rfl
    rw [e0]
    clear hW hc
    go_enter Tryz.func76, Tryz.ntmps76
    go_wp2
    go_ret
    exact ⟨rfl, grown_alloc _ _ _⟩
  · obtain ⟨hpos, x, hx, hxw, hand⟩ := odd_first hm
    obtain ⟨k, hk⟩ : ∃ k, (words m).length = k + 1 := ⟨(words m).length - 1, by omega⟩
    obtain ⟨ad, rfl, hab, g0⟩ := hW.at_ 0 hpos
    obtain ⟨ad', e', _, g1⟩ := hW.at_ k (by omega)
    injection e' with e'
    subst e'
    obtain ⟨t, ht⟩ : ∃ t, t = (words m)[k] := ⟨_, rfl⟩
    obtain ⟨_, ht0, htw⟩ := bl_words (t := t) hk (by rw [ht]; exact List.getElem?_eq_getElem _)
    rw [hx] at g0
    rw [← ht] at g1
    change w.cell? ad = _ at g0
    have ht1 : ((t : Int) != 0) = true := by rw [bne_iff_ne]; omega
    rw [hk] at hc hl ⊢
    have a0 := fun o => cell_alloc g0 o
    have a1 := fun o => cell_alloc g1 o
    rcases Nat.eq_zero_or_pos k with rfl | hkp
    · have hxt : t = x := ht.trans hx
      rw [hxt] at ht1
      clear a1 hW hm hx ht hk hpos g0 g1 hxt
      go_enter Tryz.func76, Tryz.ntmps76
      go_wp2
      go_ret
      exact ⟨rfl, grown_alloc _ _ _⟩
    · clear hW hm hx ht hk hpos g0 g1
      go_enter Tryz.func76, Tryz.ntmps76
      go_wp2
      go_ret
      exact ⟨rfl, grown_alloc _ _ _⟩
end Go.Proofs.YtjbdadhggejoiaaGreatDoor

namespace Go.Proofs.YtjbdadhggejoiaaGreatDoor
open Go.RowKit
set_option maxRecDepth 100000

/-- three cells of a block hold a number that may be -/
def At3 (w : World) (B i : Nat) : Prop := ∃ neg A m c e, w.cell? ⟨B, i, none⟩ = some (.bool neg) ∧ w.cell? ⟨B, i + 1, none⟩ = some (.slice A (words m).length c) ∧ w.cell? ⟨B, i + 2, none⟩ = some (.int .i64 e) ∧ NR w (NV neg A (words m).length c e) neg m e ∧ Ok neg m e
theorem At3.grown0 {w w' : World} {B i : Nat} (h : At3 w B i) (hg : w.grownBy w' none) : At3 w' B i := by
  obtain ⟨neg, A, m, c, e, h1, h2, h3, h4, h5⟩ := h
  have hb := World.block_lt_of_cell? _ _ h1
  have hk : ∀ o, w'.cell? ⟨B, o, none⟩ = w.cell? ⟨B, o, none⟩ := fun o => World.cell?_of_block (w := w) (hg.block B hb (fun e => by cases e))
  exact ⟨neg, A, m, c, e, (hk _).trans h1, (hk _).trans h2, (hk _).trans h3, h4.grown0 hg, h5⟩

set_option maxHeartbeats 4000000 in
theorem dvalids_calls (B n : Nat) (w : World) (hn : n ≤ 3) (h : ∀ i, i < n → At3 w B (3 * i)) :
    Calls Tryz.prog 82 #[.slice (some ⟨B, 0, none⟩) n n] w fun en w' => en = .returned (.bool true) ∧ w.grownBy w' none := by
  have HH := Lib.hid h
  clear h
  go_enter Tryz.func82, Tryz.ntmps82
  go_wp2_with fail
  go_loopw [7] (fun v7 wx => ∃ i : Nat, i ≤ n ∧ v7 = .int .i64 i ∧ w.grownBy wx none) (fun v7 _ => n - (intOf v7).toNat)
  case atStart => exact ⟨0, by omega, rfl, ⟨rfl, rfl, rfl, Nat.le_refl _, fun _ _ _ => rfl⟩⟩
  case round =>
    obtain ⟨i, hi, rfl, hg⟩ := hrel
    by_cases hlt : i < n
    · have hA := (HH.out i hlt).grown0 hg
      obtain ⟨neg, A, m, c, e, h1, h2, h3, hN, hO⟩ := hA
      have hcall := fun o => dvalid_calls _ neg m e (wr.alloc o) (hN.grown0 (grown_alloc _ _ _)) hO
      unfold NV at hcall
      obtain ⟨L, hL⟩ : ∃ L, L = (words m).length := ⟨_, rfl⟩
      rw [← hL] at h2 hcall
      have HC := Lib.hid hcall
      clear hcall hL hN
      rcases (by omega : i = 0 ∨ i = 1 ∨ i = 2) with rfl | rfl | rfl
      · change wr.cell? ⟨B, 0, none⟩ = _ at h1
        change wr.cell? ⟨B, 1, none⟩ = _ at h2
        change wr.cell? ⟨B, 2, none⟩ = _ at h3
        rw [show (((0 : Nat)) : Int) = 0 from rfl]
        go_wp2_with fail
        refine (HC.out _).mono ?_
        rintro e1 w1 ⟨rfl, hg1⟩
        go_wp2
        exact ⟨⟨1, by omega, rfl, grown_trans hg (grown_trans (grown_alloc _ _ _) hg1)⟩, by simp [intOf]; omega⟩
      · change wr.cell? ⟨B, 3, none⟩ = _ at h1
        change wr.cell? ⟨B, 4, none⟩ = _ at h2
        change wr.cell? ⟨B, 5, none⟩ = _ at h3
        rw [show (((1 : Nat)) : Int) = 1 from rfl]
        go_wp2_with fail
        refine (HC.out _).mono ?_
        rintro e1 w1 ⟨rfl, hg1⟩
        go_wp2
        exact ⟨⟨2, by omega, rfl, grown_trans hg (grown_trans (grown_alloc _ _ _) hg1)⟩, by simp [intOf]; omega⟩
      · change wr.cell? ⟨B, 6, none⟩ = _ at h1
        change wr.cell? ⟨B, 7, none⟩ = _ at h2
        change wr.cell? ⟨B, 8, none⟩ = _ at h3
        rw [show (((2 : Nat)) : Int) = 2 from rfl]
        go_wp2_with fail
        refine (HC.out _).mono ?_
        rintro e1 w1 ⟨rfl, hg1⟩
        go_wp2
        exact ⟨⟨3, by omega, rfl, grown_trans hg (grown_trans (grown_alloc _ _ _) hg1)⟩, by simp [intOf]; omega⟩
    · obtain rfl : i = n := by omega
      go_wp2
      go_ret
      exact ⟨rfl, hg⟩
end Go.Proofs.YtjbdadhggejoiaaGreatDoor
