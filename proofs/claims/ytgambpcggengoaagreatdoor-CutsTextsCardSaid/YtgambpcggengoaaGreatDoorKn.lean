/- What 'cuts.known' answers. -/
import Derived.Test.YtgambpcggengoaaGreatDoorFl
import Derived.Test.YtgambpcggengoaaGreatDoorCutPure
import Derived.Test.YtgambpcggengoaaGreatDoorW
namespace Go.Proofs.YtgambpcggengoaaGreatDoor
open Go.RowKit
set_option maxRecDepth 100000

def knN (f : Int) : ByteArray :=
  if f = 6 then ⟨#[97, 114, 103]⟩
  else if f = 9 then ⟨#[115, 113, 114, 116]⟩
  else if f = 11 then ⟨#[108, 111, 103]⟩
  else if f = 28 then ⟨#[94]⟩
  else if f = 18 then ⟨#[97, 115, 105, 110]⟩
  else if f = 19 then ⟨#[97, 99, 111, 115]⟩
  else if f = 23 then ⟨#[97, 116, 97, 110, 104]⟩
  else if f = 22 then ⟨#[97, 99, 111, 115, 104]⟩
  else if f = 21 then ⟨#[97, 115, 105, 110, 104]⟩
  else if f = 20 then ⟨#[97, 116, 97, 110]⟩
  else ⟨#[]⟩
def knLo (f : Int) : Nat :=
  if f = 6 then 0
  else if f = 9 then 0
  else if f = 11 then 0
  else if f = 28 then 0
  else if f = 18 then 13830554455654793216
  else if f = 19 then 13830554455654793216
  else if f = 23 then 13830554455654793216
  else if f = 22 then 4607182418800017408
  else if f = 21 then 13830554455654793216
  else if f = 20 then 13830554455654793216
  else 0
def knHi (f : Int) : Nat :=
  if f = 6 then 9218868437227405312
  else if f = 9 then 9218868437227405312
  else if f = 11 then 9218868437227405312
  else if f = 28 then 9218868437227405312
  else if f = 18 then 4607182418800017408
  else if f = 19 then 4607182418800017408
  else if f = 23 then 4607182418800017408
  else if f = 22 then 9218868437227405312
  else if f = 21 then 4607182418800017408
  else if f = 20 then 4607182418800017408
  else 0
def knUp (f : Int) : Bool :=
  if f = 6 then false
  else if f = 9 then false
  else if f = 11 then false
  else if f = 28 then false
  else if f = 18 then false
  else if f = 19 then false
  else if f = 23 then false
  else if f = 22 then false
  else if f = 21 then true
  else if f = 20 then true
  else false

attribute [local go_sem] run_frombits run_bits store_f store_c
set_option maxHeartbeats 2000000 in
theorem known_calls (f : Int) (w : World) : Calls Tryz.prog 13 #[.int .i64 f] w fun e w' => e = .returned (.tuple #[.agg #[.string (knN f), .float .f64 (knLo f), .float .f64 (knHi f), .bool (knUp f)], .bool (Cut.knownB f)]) ∧ Below w.heap.size w w' := by
  go_enter Tryz.func13, Tryz.ntmps13
  go_wp2_with (go_at_call 25; refine (inf_calls _).mono ?_; rintro e w' ⟨rfl, rfl⟩)
  all_goals
    refine bodyPost_ret (v := .tuple #[.agg #[.string (knN f), .float .f64 (knLo f), .float .f64 (knHi f), .bool (knUp f)], .bool (Cut.knownB f)]) ?_ rfl ⟨rfl, (Below.refl _ _).alloc (Nat.le_refl _) _⟩
    simp_all [results, Tryz.results13, go_sem, knN, knLo, knHi, knUp, Cut.knownB]
end Go.Proofs.YtgambpcggengoaaGreatDoor
