/- 'cuts.Show' tells the text of a list. -/
import Derived.Test.YtgambpcggengoaaGreatDoorMrg
import Derived.Test.YtgambpcggengoaaGreatDoorShelf
import Derived.Test.YtgambpcggengoaaGreatDoorIt
namespace Go.Proofs.YtgambpcggengoaaGreatDoor
open Go.RowKit
set_option maxRecDepth 100000
attribute [local go_sem] run_frombits run_bits store_f store_c

theorem cside_calls (s : Int) (w : World) : Calls Tryz.prog 14 #[.int .i64 s] w fun e w' => e = .returned (.string (sdB s)) ∧ w = w' := by
  go_enter Tryz.func14, Tryz.ntmps14
  go_wp2
  all_goals
    go_ret
    refine ⟨?_, rfl⟩
    simp_all [sdB]

theorem strInfo : (Tryz.prog.info? 9).map (fun i => (i.zero, i.size, i.bytes)) = some (some (.string ⟨#[]⟩), 1, 16) := by kernel_rfl

def itCells (l : List (Int × Int)) : List Value := l.map fun c => .string (itB c)
theorem itCells_take (l : List (Int × Int)) (k : Nat) (hk : k < l.length) : itCells (l.take (k + 1)) = itCells (l.take k) ++ [.string (itB l[k])] := by
  rw [List.take_succ_eq_append_getElem hk]; unfold itCells; rw [List.map_append]; rfl

theorem addr0 (g j : Nat) : (⟨g, 0, none⟩ : Addr).add j = ⟨g, 0 + j, none⟩ := by
  cases j <;> simp [Addr.add]
theorem below_app3 {B : Nat} {w w2 w3 : World} {o o2 : Obj} {row : Option Nat} (h : Below B w w2) (hg : (((w2.alloc o).alloc o2).drew).grownBy w3 row) (hB : B ≤ w2.heap.size) (hr : ∀ k, row = some k → B ≤ k) : Below B w w3 := by
  have h1 : Below B w (((w2.alloc o).alloc o2).drew) := ((h.alloc hB o).alloc (by simp; omega) o2).trans ⟨rfl, rfl, rfl, Nat.le_refl _, fun _ _ => rfl⟩
  exact h1.grown hg (by simp; omega) hr

set_option maxHeartbeats 4000000 in
theorem show_loop (A : Option Addr) (c : Nat) (l : List (Int × Int)) (w : World) (hl : l.length ≤ c) (hc : l.length ≤ 46) (h : Cuts w w.heap.size A l) (hv : Cut.validB l = true) :
    Calls Tryz.prog 5 #[.slice A l.length c] w fun e w' => e = .returned (.tuple #[.string (shB l), .int .i64 0]) ∧ Below w.heap.size w w' := by
  obtain ⟨i0, hi0, hz0, hz1, hz2⟩ := info_parts strInfo
  have HH := Lib.hid h; have HV := Lib.hid hv
  clear h hv
  go_enter Tryz.func5, Tryz.ntmps5
  go_wp2_with fail
  refine (valid_calls A c l _ hl (by omega) HH.out).mono ?_
  rintro e w1 ⟨rfl, hb1⟩
  have e0 : validI l = 0 := (validI_yes HV.out).symm
  rw [e0]
  clear e0
  go_wp2
  go_loopw [5, 17] (fun v5 i wr => ∃ k : Nat, k ≤ l.length ∧ i = .int .i64 k ∧ Hid (wr.ownsRow w.heap.size 9 1 v5 k (itCells (l.take k))) ∧ Below w.heap.size w wr) (fun _ i _ => l.length - (intOf i).toNat)
  case atStart => exact ⟨0, Nat.zero_le _, rfl, World.ownsRow_nil _ _ _ _, hb1⟩
  case round =>
    clear hb1
    obtain ⟨k, hk, rfl, hO, hb⟩ := hrel
    by_cases hlt : k < l.length
    · obtain ⟨ad, rfl, hab, h1, h2⟩ := HH.out.at_ k hlt
      have g1 : wr.cell? (ad.add (k * 2)) = some (.int .i64 l[k].1) := (hb.cell (by rw [addr_block]; exact hab)).trans h1
      have g2 : wr.cell? ⟨(ad.add (k * 2)).block, (ad.add (k * 2)).off + 1, none⟩ = some (.int .i64 l[k].2) := (hb.cell (by show (ad.add (k * 2)).block < _; rw [addr_block]; exact hab)).trans h2
      clear h1 h2
      obtain ⟨⟨f, s⟩, hf⟩ : ∃ x, x = l[k] := ⟨_, rfl⟩
      rw [← hf] at g1 g2
      have Hf := Lib.hid hf
      clear hf
      go_wp2_with fail
      refine (known_calls _ _).mono ?_
      rintro e w2 ⟨rfl, hb2⟩
      obtain ⟨g3, g4⟩ := below_two hb2
      have hO2 : w2.ownsRow w.heap.size 9 1 u5 k (itCells (l.take k)) := (hO.out.alloc _).kept (row := none) ⟨hb2.os, hb2.tape, hb2.output, hb2.size, fun k hk _ => hb2.block k hk⟩ (by cases u5.ownBlock <;> simp)
      have HO2 := Lib.hid hO2
      have lz : wr.heap.size < w2.heap.size := by have := hb2.size; simp at this; omega
      have hb3 : Below w.heap.size w w2 := (hb.alloc hb.size _).trans (hb2.mono (by simp; have := hb.size; omega))
      have own1 : u5.ownBlock ≠ some wr.heap.size := fun e => by have := (hO.out.lt _ e).2; omega
      have own2 : u5.ownBlock ≠ some w2.heap.size := fun e => by have := (hO2.lt _ e).2; omega
      have ks := knN_size f
      have ss := sdB_size s
      have ks1 : ¬ 9223372036854775807 < (knN f).size + 1 := by omega
      have ks2 : ¬ 9223372036854775807 < (knN f).size + 1 + (sdB s).size := by omega
      clear hb2 hO2 g1 g2
      go_wp2
      go_region_held3 (fun w' => w'.cell? ⟨w2.heap.size, 0, none⟩ = some (.string (knN f)) ∧ w'.cell? ⟨wr.heap.size, 1, none⟩ = some (.int .i64 s))
        (first
          | go_keep
          | (go_split_ands
             refine ⟨?_, ?_⟩
             · (rw [hgrow.cell_far ⟨w2.heap.size, 0, none⟩ (by simp; omega) (Ne.symm own2)]; assumption)
             · (rw [hgrow.cell_far ⟨wr.heap.size, 1, none⟩ (by simp; omega) (Ne.symm own1)]; assumption)))
        (first
          | (go_at_call 14; refine (cside_calls _ _).mono ?_; rintro e w' ⟨rfl, rfl⟩)
          | ((refine step_append_lies _ (by rfl) _ _ _ (by rfl) w.heap.size 9 i0 _ 1 16 Tryz.underlying37 hi0 hz0 hz1 hz2 rfl (by omega) _ k (itCells (l.take k)) (by rfl) (((HO2.out.alloc _).alloc _).drew) ⟨w2.heap.size + 1, 0, none⟩ 1 1 [.string (itB (f, s))] (by rfl) (by rfl) (by intro j u hj; exact news_next #[.string (itB (f, s))] 9 (w := w2.alloc _) (B := w2.heap.size + 1) (by simp) j u hj) (by simp [Value.oneCell']) (by omega) (by simp only [maxLen]; omega) (by omega) (by simp; have := hb3.size; omega) (w2.heap.size + 2) (by simp) ?_; intro gg cap w3 hown1 hgrow hat hz3)))
      go_wp2
      go_roundw
      case rel =>
        refine ⟨k + 1, by omega, by go_num, ?_, ?_⟩
        · (rw [itCells_take _ _ hlt, ← Hf.out]; exact Lib.hid hown1)
        · exact below_app3 hb3 hgrow hb3.size (fun k hk => (HO2.out.lt _ hk).1)
      case measure => simp [intOf]; omega
    · obtain rfl : k = l.length := by omega
      have hO3 := hO.out
      rw [List.take_length] at hO3
      have hlen : (Lib.join ((l.map itB).map (·.data.toList)) (⟨#[44, 32]⟩ : ByteArray).data.toList).length ≤ 140737488355328 := by
        have := join_small l
        omega
      by_cases h0 : l.length = 0
      · obtain rfl : l = [] := List.eq_nil_of_length_eq_zero h0
        have hu : ∃ a c, u5 = .slice a 0 c := by
          rcases hO3.2 with ⟨rfl, _⟩ | ⟨g, cap, cur, rfl, _⟩ <;> exact ⟨_, _, rfl⟩
        obtain ⟨a, c', rfl⟩ := hu
        have hL : (([] : List (Int × Int)).length) = 0 := rfl
        clear hO hO3 hlen
        go_wp2_with fail
        refine (Tryz.strings_Join_none _ _ _ _).mono ?_
        rintro e w2 ⟨rfl, rfl⟩
        go_wp2
        refine bodyPost_ret (v := .tuple #[.string ⟨#[]⟩, .int .i64 0]) ?_ rfl ⟨rfl, hb⟩
        simp [results, Tryz.results5, go_sem]
      · obtain ⟨g, cap, rfl, hg1, hg2⟩ := hO3.form (by omega)
        have hcap : l.length ≤ cap := by
          rcases hO3.2 with ⟨h, _⟩ | ⟨g', cap', cur, h, _, _, hcap, _⟩
          · cases h
          · cases h; exact hcap
        have hJ := Tryz.strings_Join g 0 cap (l.map itB) ⟨#[44, 32]⟩ wr (fun j x hx => by
          have := hO3.cells (g := g) rfl j (.string x) (by rw [itCells, List.getElem?_map]; rw [List.getElem?_map] at hx; cases hq : l[j]? with
            | none => rw [hq] at hx; cases hx
            | some c => rw [hq] at hx; cases hx; rfl)
          rwa [addr0] at this) (by omega) (by rw [List.length_map]; omega) (by rw [List.length_map]; exact hcap) hlen
        rw [List.length_map] at hJ
        clear hO hO3 hlen
        go_wp2_with fail
        refine hJ.mono ?_
        rintro e w2 ⟨rfl, hb2⟩
        have hb4 := hb.trans (hb2.mono hb.size)
        clear hJ hb2 hb
        go_wp2
        refine bodyPost_ret (v := .tuple #[.string (shB l), .int .i64 0]) ?_ rfl ⟨rfl, hb4⟩
        simp [results, Tryz.results5, go_sem, shB]
end Go.Proofs.YtgambpcggengoaaGreatDoor
