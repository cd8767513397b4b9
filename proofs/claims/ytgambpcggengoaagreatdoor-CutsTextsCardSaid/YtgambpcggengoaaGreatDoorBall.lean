/- Contracts of the tests on floats and balls. -/
import Derived.Test.YtgambpcggengoaaGreatDoorFl
import Derived.Test.YtgambpcggengoaaGreatDoorQ
namespace Go.Proofs.YtgambpcggengoaaGreatDoor
open Go.RowKit
set_option maxRecDepth 100000
attribute [local go_sem] run_frombits run_bits store_f store_c

/-- Is a float's word a NaN? -/
def nanF (x : Nat) : Bool := FloatKind.f64.format.order x x != some .eq
/-- Are two words one, or both NaNs? -/
def alikeF (x y : Nat) : Bool := x == y || (nanF x && nanF y)

theorem ret_bb {a b : Bool} (h : a = b) : Ending.returned (.bool a) = .returned (.bool b) := by rw [h]

theorem isnan_calls (x : Nat) (w : World) : Calls Tryz.prog 64 #[.float .f64 x] w fun e w' => e = .returned (.bool (nanF x)) ∧ w = w' := by
  go_enter Tryz.func64, Tryz.ntmps64
  go_wp2
  go_ret
  exact ⟨rfl, rfl⟩

theorem psame_calls (x y : Nat) (w : World) : Calls Tryz.prog 82 #[.float .f64 x, .float .f64 y] w fun e w' => e = .returned (.bool (alikeF x y)) ∧ w = w' := by
  by_cases h : x = y
  · subst h
    go_enter Tryz.func82, Tryz.ntmps82
    go_wp2
    go_ret
    exact ⟨ret_bb (by simp [alikeF]), rfl⟩
  · have h1 : ((x : Int) == (y : Int)) = false := by rw [beq_eq_false_iff_ne]; omega
    have h2 : (x == y) = false := by rw [beq_eq_false_iff_ne]; exact h
    have H := Lib.hid h
    clear h
    cases hn : nanF x with
    | false =>
      have Hn := Lib.hid hn
      clear hn
      go_enter Tryz.func82, Tryz.ntmps82
      go_wp2_with (go_at_call 64; refine (isnan_calls _ _).mono ?_; rw [Hn.out]; rintro e w' ⟨rfl, rfl⟩)
      go_ret
      exact ⟨ret_bb (by simp [alikeF, h2, Hn.out]), rfl⟩
    | true =>
      have Hn := Lib.hid hn
      clear hn
      go_enter Tryz.func82, Tryz.ntmps82
      go_wp2_with fail
      refine (isnan_calls _ _).mono ?_
      rw [Hn.out]
      rintro e w' ⟨rfl, rfl⟩
      go_wp2_with fail
      refine (isnan_calls _ _).mono ?_
      rintro e w' ⟨rfl, rfl⟩
      go_wp2
      go_ret
      exact ⟨ret_bb (by simp [alikeF, h2, Hn.out]), rfl⟩

theorem bsame_calls (x y : Nat) (w : World) : Calls Tryz.prog 66 #[.float .f64 x, .float .f64 y] w fun e w' => e = .returned (.bool (alikeF x y)) ∧ w = w' := by
  by_cases h : x = y
  · subst h
    go_enter Tryz.func66, Tryz.ntmps66
    go_wp2
    go_ret
    exact ⟨ret_bb (by simp [alikeF]), rfl⟩
  · have h1 : ((x : Int) == (y : Int)) = false := by rw [beq_eq_false_iff_ne]; omega
    have h2 : (x == y) = false := by rw [beq_eq_false_iff_ne]; exact h
    have H := Lib.hid h
    clear h
    cases hn : nanF x with
    | false =>
      have Hn := Lib.hid hn
      clear hn
      go_enter Tryz.func66, Tryz.ntmps66
      go_wp2_with (go_at_call 64; refine (isnan_calls _ _).mono ?_; rw [Hn.out]; rintro e w' ⟨rfl, rfl⟩)
      go_ret
      exact ⟨ret_bb (by simp [alikeF, h2, Hn.out]), rfl⟩
    | true =>
      have Hn := Lib.hid hn
      clear hn
      go_enter Tryz.func66, Tryz.ntmps66
      go_wp2_with fail
      refine (isnan_calls _ _).mono ?_
      rw [Hn.out]
      rintro e w' ⟨rfl, rfl⟩
      go_wp2_with fail
      refine (isnan_calls _ _).mono ?_
      rintro e w' ⟨rfl, rfl⟩
      go_wp2
      go_ret
      exact ⟨ret_bb (by simp [alikeF, h2, Hn.out]), rfl⟩

def alikeC (a b c d : Nat) : Bool := alikeF a c && alikeF b d
theorem pSame_calls (a b c d : Nat) (w : World) : Calls Tryz.prog 65 #[.complex .f64 a b, .complex .f64 c d] w fun e w' => e = .returned (.bool (alikeC a b c d)) ∧ w = w' := by
  cases h : alikeF a c with
  | false =>
    have H := Lib.hid h
    clear h
    go_enter Tryz.func65, Tryz.ntmps65
    go_wp2_with fail
    refine (psame_calls _ _ _).mono ?_
    rw [H.out]
    rintro e w' ⟨rfl, rfl⟩
    go_wp2
    go_ret
    exact ⟨ret_bb (by simp [alikeC, H.out]), rfl⟩
  | true =>
    have H := Lib.hid h
    clear h
    go_enter Tryz.func65, Tryz.ntmps65
    go_wp2_with fail
    refine (psame_calls _ _ _).mono ?_
    rw [H.out]
    rintro e w' ⟨rfl, rfl⟩
    go_wp2_with fail
    refine (psame_calls _ _ _).mono ?_
    rintro e w' ⟨rfl, rfl⟩
    go_wp2
    go_ret
    exact ⟨ret_bb (by simp [alikeC, H.out]), rfl⟩

theorem plane_calls (w : World) : Calls Tryz.prog 45 #[] w fun e w' => e = .returned (.agg #[.complex .f64 0 0, .float .f64 9218868437227405312]) ∧ Below w.heap.size w w' := by
  go_enter Tryz.func45, Tryz.ntmps45
  go_wp2_with (go_at_call 25; refine (inf_calls _).mono ?_; rintro e w' ⟨rfl, rfl⟩)
  refine bodyPost_ret (v := .agg #[.complex .f64 0 0, .float .f64 9218868437227405312]) ?_ rfl ⟨rfl, (Below.refl _ _).alloc (Nat.le_refl _) _⟩
  simp [results, Tryz.results45, go_sem]

def alikeB (a b r c d s : Nat) : Bool := alikeC a b c d && alikeF r s
theorem bSame_calls (a b r c d s : Nat) (w : World) : Calls Tryz.prog 44 #[.agg #[.complex .f64 a b, .float .f64 r], .agg #[.complex .f64 c d, .float .f64 s]] w
    fun e w' => e = .returned (.bool (alikeB a b r c d s)) ∧ Below w.heap.size w w' := by
  cases h : alikeC a b c d with
  | false =>
    have H := Lib.hid h
    clear h
    go_enter Tryz.func44, Tryz.ntmps44
    go_wp2_with fail
    refine (pSame_calls _ _ _ _ _).mono ?_
    rw [H.out]
    rintro e w' ⟨rfl, rfl⟩
    go_wp2
    go_ret
    exact ⟨ret_bb (by simp [alikeB, H.out]), ((Below.refl _ _).alloc (Nat.le_refl _) _).alloc (by simp) _⟩
  | true =>
    have H := Lib.hid h
    clear h
    go_enter Tryz.func44, Tryz.ntmps44
    go_wp2_with fail
    refine (pSame_calls _ _ _ _ _).mono ?_
    rw [H.out]
    rintro e w' ⟨rfl, rfl⟩
    go_wp2_with fail
    refine (bsame_calls _ _ _).mono ?_
    rintro e w' ⟨rfl, rfl⟩
    go_wp2
    go_ret
    exact ⟨ret_bb (by simp [alikeB, H.out]), ((Below.refl _ _).alloc (Nat.le_refl _) _).alloc (by simp) _⟩

/-- Is a ball the whole plane? -/
def wholeB (a b r : Nat) : Bool := alikeB a b r 0 0 9218868437227405312
theorem whole_calls (a b r : Nat) (w : World) : Calls Tryz.prog 32 #[.agg #[.complex .f64 a b, .float .f64 r]] w fun e w' => e = .returned (.bool (wholeB a b r)) ∧ Below w.heap.size w w' := by
  go_enter Tryz.func32, Tryz.ntmps32
  go_wp2
  generalize hw1 : w.alloc _ = w1
  have g0 : w1.cell? ⟨w.heap.size, 0, none⟩ = some (.complex .f64 a b) := by rw [← hw1]; simp [go_sem]
  have g1 : w1.cell? ⟨w.heap.size, 1, none⟩ = some (.float .f64 r) := by rw [← hw1]; simp [go_sem]
  have hz : w.heap.size < w1.heap.size := by rw [← hw1]; simp
  have hb : Below w.heap.size w w1 := by rw [← hw1]; exact (Below.refl _ _).alloc (Nat.le_refl _) _
  clear hw1
  have HS : Hid (∀ w', Below w1.heap.size w1 w' → (w'.cell? ⟨w.heap.size, 0, none⟩ = some (.complex .f64 a b) ∧ w'.cell? ⟨w.heap.size, 1, none⟩ = some (.float .f64 r))) :=
    fun w' hC => ⟨(hC.cell (p := ⟨w.heap.size, 0, none⟩) hz).trans g0, (hC.cell (p := ⟨w.heap.size, 1, none⟩) hz).trans g1⟩
  refine wp_region_quiet (C := fun w' => Below w1.heap.size w1 w') (by kernel_rfl) (by kernel_rfl) (below_draw _ _) ?_
  simp only []
  repeat (first
    | go_big_quiet_skip
    | (go_big_quiet_want
       first
       | (refine q_held HS.out (v := ?_) ?_ ?_
          rotate_left
          · rintro w' ⟨s0, s1⟩
            go_simp
            with_reducible rfl
          simp only [Act.put, List.setIfInBounds_toArray, List.set_cons_zero, List.set_cons_succ]
          go_big_quiet_on)
       | (refine q_call (f := 45) (args := #[]) (v := .agg #[.complex .f64 0 0, .float .f64 9218868437227405312]) ?_ ?_ ?_
          · intro w'
            go_simp
          · intro w' hC
            exact calls_in (plane_calls w') hC hC.size
          simp only [Act.put, List.setIfInBounds_toArray, List.set_cons_zero, List.set_cons_succ]
          go_big_quiet_on)
       | (refine q_call (f := 44) (args := #[.agg #[.complex .f64 a b, .float .f64 r], .agg #[.complex .f64 0 0, .float .f64 9218868437227405312]]) (v := .bool (wholeB a b r)) ?_ ?_ ?_
          · intro w'
            go_simp
          · intro w' hC
            exact calls_in (bSame_calls a b r 0 0 9218868437227405312 w') hC hC.size
          simp only [Act.put, List.setIfInBounds_toArray, List.set_cons_zero, List.set_cons_succ]
          go_big_quiet_on)))
  refine wpQuiet_nil ?_
  intro w2 hC2
  go_wp2
  go_ret
  exact ⟨rfl, hb.trans (hC2.mono hb.size)⟩

/-- The word without its sign is above the greatest float's. -/
def infF (x : Nat) : Bool := FloatKind.f64.format.order (bits .andNot .u64 (x : Int) 9223372036854775808).toNat 9218868437227405311 == some .gt
theorem isinf_calls (x : Nat) (w : World) : Calls Tryz.prog 34 #[.float .f64 x, .int .i64 0] w fun e w' => e = .returned (.bool (infF x)) ∧ w = w' := by
  go_enter Tryz.func34, Tryz.ntmps34
  go_wp2
  go_ret
  exact ⟨rfl, rfl⟩
def finF (x : Nat) : Bool := !infF x && !nanF x
theorem finite_calls (x : Nat) (w : World) : Calls Tryz.prog 43 #[.float .f64 x] w fun e w' => e = .returned (.bool (finF x)) ∧ w = w' := by
  cases h : infF x with
  | false =>
    have H := Lib.hid h
    clear h
    go_enter Tryz.func43, Tryz.ntmps43
    go_wp2_with fail
    refine (isinf_calls _ _).mono ?_
    rw [H.out]
    rintro e w' ⟨rfl, rfl⟩
    go_wp2_with fail
    refine (isnan_calls _ _).mono ?_
    rintro e w' ⟨rfl, rfl⟩
    go_wp2
    go_ret
    exact ⟨ret_bb (by simp [finF, H.out]), rfl⟩
  | true =>
    have H := Lib.hid h
    clear h
    go_enter Tryz.func43, Tryz.ntmps43
    go_wp2_with fail
    refine (isinf_calls _ _).mono ?_
    rw [H.out]
    rintro e w' ⟨rfl, rfl⟩
    go_wp2
    go_ret
    exact ⟨ret_bb (by simp [finF, H.out]), rfl⟩

/-- Is the sign set? -/
def negF (x : Nat) : Bool := decide (wrap64 (x : Int) < 0)
theorem signbit_calls (x : Nat) (w : World) : Calls Tryz.prog 35 #[.float .f64 x] w fun e w' => e = .returned (.bool (negF x)) ∧ w = w' := by
  go_enter Tryz.func35, Tryz.ntmps35
  go_wp2
  go_ret
  exact ⟨rfl, rfl⟩
end Go.Proofs.YtgambpcggengoaaGreatDoor
