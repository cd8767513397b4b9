/- 'ball.Valid'; 'cuts.Side' at a point of the logarithm's cut. -/
import Derived.Test.YtgambpcggengoaaGreatDoorBall
import Derived.Test.YtgambpcggengoaaGreatDoorKn
namespace Go.Proofs.YtgambpcggengoaaGreatDoor
open Go.RowKit
set_option maxRecDepth 100000
attribute [local go_sem] run_frombits run_bits store_f store_c

def okBall (a b r : Nat) : Bool := wholeB a b r || (finF a && finF b && finF r && !negF r)

theorem below_box {w w' : World} {T : TypeId} {x y : Value} (hb : Below (w.alloc (.cells #[x, y] T)).heap.size (w.alloc (.cells #[x, y] T)) w') :
    w'.cell? ⟨w.heap.size, 0, none⟩ = some x ∧ w'.cell? ⟨w.heap.size, 1, none⟩ = some y ∧ Below w.heap.size w w' :=
  ⟨(hb.cell (p := ⟨w.heap.size, 0, none⟩) (by simp)).trans (by simp [go_sem]), (hb.cell (p := ⟨w.heap.size, 1, none⟩) (by simp)).trans (by simp [go_sem]),
    ((Below.refl _ _).alloc (Nat.le_refl _) _).trans (hb.mono (by simp))⟩

theorem bvalid_calls (a b r : Nat) (w : World) : Calls Tryz.prog 31 #[.agg #[.complex .f64 a b, .float .f64 r]] w fun e w' => e = .returned (.bool (okBall a b r)) ∧ Below w.heap.size w w' := by
  go_enter Tryz.func31, Tryz.ntmps31
  go_wp2_with fail
  refine (whole_calls _ _ _ _).mono ?_
  rintro e w1 ⟨rfl, hb1⟩
  obtain ⟨g0, g1, hb⟩ := below_box hb1
  have HB := Lib.hid hb
  clear hb hb1
  cases h0 : wholeB a b r with
  | true =>
    have H0 := Lib.hid h0
    clear h0
    go_wp2
    go_ret
    exact ⟨ret_bb (by simp [okBall, H0.out]), HB.out⟩
  | false =>
    have H0 := Lib.hid h0
    clear h0
    go_wp2_with fail
    refine (finite_calls _ _).mono ?_
    rintro e w' ⟨rfl, rfl⟩
    cases h1 : finF a with
    | false =>
      have H1 := Lib.hid h1
      clear h1
      go_wp2
      go_ret
      exact ⟨ret_bb (by simp [okBall, H0.out, H1.out]), HB.out⟩
    | true =>
      have H1 := Lib.hid h1
      clear h1
      go_wp2_with fail
      refine (finite_calls _ _).mono ?_
      rintro e w' ⟨rfl, rfl⟩
      cases h2 : finF b with
      | false =>
        have H2 := Lib.hid h2
        clear h2
        go_wp2
        go_ret
        exact ⟨ret_bb (by simp [okBall, H0.out, H1.out, H2.out]), HB.out⟩
      | true =>
        have H2 := Lib.hid h2
        clear h2
        go_wp2_with fail
        refine (finite_calls _ _).mono ?_
        rintro e w' ⟨rfl, rfl⟩
        cases h3 : finF r with
        | false =>
          have H3 := Lib.hid h3
          clear h3
          go_wp2
          go_ret
          exact ⟨ret_bb (by simp [okBall, H0.out, H1.out, H2.out, H3.out]), HB.out⟩
        | true =>
          have H3 := Lib.hid h3
          clear h3
          go_wp2_with fail
          refine (signbit_calls _ _).mono ?_
          rintro e w' ⟨rfl, rfl⟩
          go_wp2
          go_ret
          exact ⟨ret_bb (by simp [okBall, H0.out, H1.out, H2.out, H3.out]), HB.out⟩

theorem below_known {w w' : World} {s : ByteArray} {x y : Nat} {u : Bool} (hb : Below (w.alloc (.cells #[.string s, .float .f64 x, .float .f64 y, .bool u] 42)).heap.size (w.alloc (.cells #[.string s, .float .f64 x, .float .f64 y, .bool u] 42)) w') :
    w'.cell? ⟨w.heap.size, 1, none⟩ = some (.float .f64 x) ∧ w'.cell? ⟨w.heap.size, 2, none⟩ = some (.float .f64 y) ∧ w'.cell? ⟨w.heap.size, 3, none⟩ = some (.bool u) :=
  ⟨(hb.cell (p := ⟨w.heap.size, 1, none⟩) (by simp)).trans (by simp [go_sem]), (hb.cell (p := ⟨w.heap.size, 2, none⟩) (by simp)).trans (by simp [go_sem]), (hb.cell (p := ⟨w.heap.size, 3, none⟩) (by simp)).trans (by simp [go_sem])⟩

set_option maxHeartbeats 2000000 in
theorem side_log (w : World) : Calls Tryz.prog 24 #[.int .i64 11, .agg #[.complex .f64 13830554455654793216 0, .float .f64 0]] w fun e w' => e = .returned (.tuple #[.int .i64 1, .int .i64 0]) ∧ Below w.heap.size w w' := by
  have kl : knLo 11 = 0 := by decide
  have kh : knHi 11 = 9218868437227405312 := by decide
  have ku : knUp 11 = false := by decide
  have kb : Cut.knownB 11 = true := by decide
  have v0 : okBall 13830554455654793216 0 0 = true := by decide +kernel
  have v1 : wholeB 13830554455654793216 0 0 = false := by decide +kernel
  have v2 : negF 0 = false := by decide +kernel
  go_enter Tryz.func24, Tryz.ntmps24
  go_wp2_with fail
  refine (known_calls 11 _).mono ?_
  rw [kl, kh, ku, kb]
  rintro e w1 ⟨rfl, hb1⟩
  obtain ⟨g0, g1, hb⟩ := below_box hb1
  have HB := Lib.hid hb
  have lz : w.heap.size < w1.heap.size := by have := hb1.size; simp at this; omega
  clear hb hb1
  go_wp2_with fail
  refine (bvalid_calls _ _ _ _).mono ?_
  rw [v0]
  rintro e w2 ⟨rfl, hb2⟩
  obtain ⟨k1, k2, k3⟩ := below_known hb2
  have lz1 : w1.heap.size < w2.heap.size := by have := hb2.size; simp at this; omega
  have f0 := (hb2.cell (p := ⟨w.heap.size, 0, none⟩) (by simp; omega)).trans ((World.cell?_alloc_lt w1 _ ⟨w.heap.size, 0, none⟩ lz).trans g0)
  have f1 := (hb2.cell (p := ⟨w.heap.size, 1, none⟩) (by simp; omega)).trans ((World.cell?_alloc_lt w1 _ ⟨w.heap.size, 1, none⟩ lz).trans g1)
  have HB2 := Lib.hid (show Below w.heap.size w w2 from (HB.out.alloc HB.out.size _).trans (hb2.mono (by simp; omega)))
  clear hb2 g0 g1
  go_wp2_with fail
  refine (whole_calls _ _ _ _).mono ?_
  rw [v1]
  rintro e w3 ⟨rfl, hb3⟩
  have f0' := (hb3.cell (p := ⟨w.heap.size, 0, none⟩) (by simp; omega)).trans f0
  have f1' := (hb3.cell (p := ⟨w.heap.size, 1, none⟩) (by simp; omega)).trans f1
  have k1' := (hb3.cell (p := ⟨w1.heap.size, 1, none⟩) (by simp; omega)).trans k1
  have k2' := (hb3.cell (p := ⟨w1.heap.size, 2, none⟩) (by simp; omega)).trans k2
  have k3' := (hb3.cell (p := ⟨w1.heap.size, 3, none⟩) (by simp; omega)).trans k3
  have HB3 := Lib.hid (HB2.out.trans (hb3.mono HB2.out.size))
  clear hb3 f0 f1 k1 k2 k3
  have c1 : (FloatKind.f64.format.order 0 0 == some .gt) = false := by decide +kernel
  have c2 : (FloatKind.f64.format.order 0 0 != some .eq) = false := by decide +kernel
  have c3 : (FloatKind.f64.format.order 13830554455654793216 0 == some .gt) = false := by decide +kernel
  have c4 : (FloatKind.f64.format.order 13830554455654793216 0 == some .eq) = false := by decide +kernel
  go_wp2
  go_quiet (fail)
  go_wp2_with fail
  refine (signbit_calls _ _).mono ?_
  rw [v2]
  rintro e w' ⟨rfl, rfl⟩
  go_wp2
  go_ret2
  exact ⟨rfl, HB3.out.trans ⟨rfl, rfl, rfl, Nat.le_refl _, fun _ _ => rfl⟩⟩
end Go.Proofs.YtgambpcggengoaaGreatDoor
