/- 'cuts.Merge' puts two lists of cuts together. -/
import Derived.Test.YtgambpcggengoaaGreatDoorVal
import Derived.Deep.AppendLies
namespace Go.Proofs.YtgambpcggengoaaGreatDoor
open Go.RowKit
set_option maxRecDepth 100000
attribute [local go_sem] run_frombits run_bits store_f store_c

theorem cutInfo : (Tryz.prog.info? 39).map (fun i => (i.zero, i.size, i.bytes)) = some (some (.agg #[.int .i64 0, .int .i64 0]), 2, 16) := by kernel_rfl

def lenOf : Value → Nat | .slice _ n _ => n | _ => 0

/-- a[1:] of a list of cuts -/
theorem run_tail1 (A : Option Addr) (n c : Nat) (hn : 1 ≤ n) :
    ∃ A' : Option Addr, (∀ w, (Instr.slice 22 (.slice A n c) (some (.int .i64 1)) none none).run Tryz.prog w = .ok (.slice A' (n - 1) (c - 1)) w) ∧
      A' = if c = 1 then A else A.map (·.add 2) := by
  refine ⟨_, fun w => ?_, rfl⟩
  have h := run_slice_l (P := Tryz.prog) w 22 A n c Tryz.underlying22 .i64 1 (by omega) (by omega)
  rw [h]
  have e : (sizeOf (Tryz.prog.elem 22)).run Tryz.prog w = .ok 2 w := by kernel_rfl
  rw [e]
  simp [Result.andThen, sliced]

/-- Where the loop stands: a', b' are left, out is told. -/
def MSt (w : World) (a b : List (Int × Int)) (na nb : Nat) (A B : Option Addr) (v6 : Value) (wr : World) : Prop :=
  ∃ a' b' out : List (Int × Int), a'.length = na ∧ b'.length = nb ∧ Cuts w w.heap.size A a' ∧ Cuts w w.heap.size B b' ∧ Cut.mrg a b = out ++ Cut.mrg a' b' ∧
    wr.ownsRow w.heap.size 39 2 v6 out.length (cutCells out) ∧ out.length + na + nb ≤ 46

theorem MSt.mk_ {w w3 : World} {a b a1 b1 a2 b2 out : List (Int × Int)} {c : Int × Int} {A2 B2 : Option Addr} {na2 nb2 : Nat} {v6 : Value} (h1 : a2.length = na2) (h2 : b2.length = nb2)
    (h3 : Cuts w w.heap.size A2 a2) (h4 : Cuts w w.heap.size B2 b2) (hm : Cut.mrg a b = out ++ Cut.mrg a1 b1) (hs : Cut.mrg a1 b1 = c :: Cut.mrg a2 b2)
    (ho : w3.ownsRow w.heap.size 39 2 v6 (out.length + 1) (cutCells out ++ [.int .i64 c.1, .int .i64 c.2])) (hl : out.length + 1 + na2 + nb2 ≤ 46) : MSt w a b na2 nb2 A2 B2 v6 w3 :=
  ⟨a2, b2, out ++ [c], h1, h2, h3, h4, by rw [hm, hs]; simp, by rw [cutCells_append]; simpa [cutCells] using ho, by simp; omega⟩
theorem mrg_same {f s : Int} (a b : List (Int × Int)) : Cut.mrg ((f, s) :: a) ((f, s) :: b) = (f, s) :: Cut.mrg a b := by rw [Cut.mrg]; simp
theorem mrg_both {f s t : Int} (h : ¬ s = t) (a b : List (Int × Int)) : Cut.mrg ((f, s) :: a) ((f, t) :: b) = (f, 3) :: Cut.mrg a b := by rw [Cut.mrg]; simp [h]
theorem mrg_lt {f s g t : Int} (h : f < g) (a b : List (Int × Int)) : Cut.mrg ((f, s) :: a) ((g, t) :: b) = (f, s) :: Cut.mrg a ((g, t) :: b) := by rw [Cut.mrg]; simp [h]
theorem mrg_gt {f s g t : Int} (h : g < f) (a b : List (Int × Int)) : Cut.mrg ((f, s) :: a) ((g, t) :: b) = (g, t) :: Cut.mrg ((f, s) :: a) b := by
  rw [Cut.mrg]; simp [h]; omega
theorem mrg_nil (a : List (Int × Int)) : Cut.mrg a [] = a := by cases a <;> simp [Cut.mrg]
theorem mrg_nil1 (c : Int × Int) (a : List (Int × Int)) : Cut.mrg (c :: a) [] = c :: Cut.mrg a [] := by rw [mrg_nil, mrg_nil]
theorem nil_mrg1 (c : Int × Int) (a : List (Int × Int)) : Cut.mrg [] (c :: a) = c :: Cut.mrg [] a := by simp [Cut.mrg]

/-- What 'Merge' leaves. -/
def MDone (w : World) (a b : List (Int × Int)) (e : Ending) (w' : World) : Prop := ∃ v, e = .returned (.tuple #[v, .int .i64 0]) ∧
  w'.ownsRow w.heap.size 39 2 v (Cut.mrg a b).length (cutCells (Cut.mrg a b)) ∧ Below w.heap.size w w'
theorem below_app {B n : Nat} {w wr w3 : World} {o : Obj} {row : Option Nat} (h : Below B w wr) (hg : ((wr.drewN n).alloc o).grownBy w3 row) (hB : B ≤ wr.heap.size) (hr : ∀ k, row = some k → B ≤ k) : Below B w w3 :=
  (h.trans (show Below B wr ((wr.drewN n).alloc o) from (show Below B wr (wr.drewN n) from ⟨rfl, rfl, rfl, Nat.le_refl _, fun _ _ => rfl⟩).alloc hB o)).grown hg (by simp; omega) hr
theorem MDone.mk_ {w : World} {a b : List (Int × Int)} {e : Ending} {w' : World} {v : Value} (he : e = .returned (.tuple #[v, .int .i64 0]))
    (h : w'.ownsRow w.heap.size 39 2 v (Cut.mrg a b).length (cutCells (Cut.mrg a b))) (hb : Below w.heap.size w w') : MDone w a b e w' := ⟨v, he, h, hb⟩

set_option maxHeartbeats 16000000 in
theorem merge_loop (A B : Option Addr) (ca cb : Nat) (a b : List (Int × Int)) (w : World) (hla : a.length ≤ ca) (hlb : b.length ≤ cb) (hca : a.length ≤ 140737488351232) (hcb : b.length ≤ 140737488351232)
    (ha : Cuts w w.heap.size A a) (hb : Cuts w w.heap.size B b) (va : Cut.validB a = true) (vb : Cut.validB b = true) (hlen : a.length + b.length ≤ 46) :
    Calls Tryz.prog 12 #[.slice A a.length ca, .slice B b.length cb] w fun e w' => MDone w a b e w' := by
  obtain ⟨i0, hi0, hz0, hz1, hz2⟩ := info_parts cutInfo
  have HA := Lib.hid ha; have HB := Lib.hid hb; have VA := Lib.hid va; have VB := Lib.hid vb
  clear ha hb va vb
  go_enter Tryz.func12, Tryz.ntmps12
  go_wp2_with fail
  refine (valid_calls A ca a _ hla hca HA.out).mono ?_
  rintro e w1 ⟨rfl, hb1⟩
  have e0 : validI a = 0 := (validI_yes VA.out).symm
  rw [e0]
  clear e0
  go_wp2_with fail
  refine (valid_calls B cb b _ hlb hcb ((HB.out.below hb1 (Nat.le_refl _)).more hb1.size)).mono ?_
  rintro e w2 ⟨rfl, hb2⟩
  have e0 : validI b = 0 := (validI_yes VB.out).symm
  rw [e0]
  clear e0
  have hb2' := hb1.trans (hb2.mono hb1.size)
  clear hb1 hb2
  go_wp2

  go_loopw [0, 1, 6] (fun v0 v1 v6 wr => ∃ (A B : Option Addr) (na nb ca cb : Nat), v0 = .slice A na ca ∧ v1 = .slice B nb cb ∧ na ≤ ca ∧ nb ≤ cb ∧ na ≤ 140737488351232 ∧ nb ≤ 140737488351232 ∧
      Hid (MSt w a b na nb A B v6 wr) ∧ Below w.heap.size w wr) (fun v0 v1 _ _ => lenOf v0 + lenOf v1)
  case atStart => exact ⟨A, B, _, _, _, _, rfl, rfl, hla, hlb, hca, hcb, ⟨a, b, [], rfl, rfl, HA.out, HB.out, rfl, World.ownsRow_nil _ _ _ _, by simp; omega⟩, hb2'⟩
  case round =>
    clear HA HB hla hlb hca hcb
    obtain ⟨A, B, na, nb, ca, cb, rfl, rfl, hla, hlb, hca, hcb, hS, hbl⟩ := hrel
    obtain ⟨a', b', out, hna, hnb, hA, hB, hm, hown, hlen⟩ := hS.out
    by_cases h0 : na = 0
    · subst h0
      obtain rfl : a' = [] := List.eq_nil_of_length_eq_zero hna
      by_cases h1 : nb = 0
      · subst h1
        obtain rfl : b' = [] := List.eq_nil_of_length_eq_zero hnb
        --CASE a
        have Hm := Lib.hid hm; have Hown := Lib.hid hown
        clear hm hown hna hnb hA hB
        go_wp2
        go_ret2
        exact MDone.mk_ rfl (by rw [Hm.out, Cut.mrg, List.append_nil]; exact Hown.out) hbl
        --END a
      · have h1 := h1
        --CASE b
        obtain ⟨⟨g, t⟩, b', rfl⟩ : ∃ x l, b' = x :: l := List.exists_cons_of_length_pos (by omega)
        obtain ⟨adb, rfl, hab, gb0, gb1⟩ := hB.head
        have g2 := (hbl.cell hab).trans gb0
        have g3 := (hbl.cell (p := ⟨adb.block, adb.off + 1, none⟩) hab).trans gb1
        have q2 : 0 < nb := by omega
        have p2 : (0 : Int) < (nb : Int) := by omega
        have r2 : ((nb : Int) == 0) = false := by rw [beq_eq_false_iff_ne]; omega
        obtain ⟨B2, hB2, eB2⟩ := run_tail1 (some adb) nb cb (by omega)
        have hB3 : Cuts w w.heap.size B2 b' := by rw [eB2]; exact hB.tail hnb hlb
        have own2 : u6.ownBlock ≠ some adb.block := fun e => by have := (hown.lt _ e).1; omega
        have lzb : adb.block < wr.heap.size := by have := hbl.size; omega
        have HB := Lib.hid hB; have HB3 := Lib.hid hB3
        clear eB2 hB hB3 gb0 gb1 hab
        have Hna := Lib.hid hna; have Hnb := Lib.hid hnb; have Hm := Lib.hid hm; have Hown := Lib.hid hown
        clear hna hnb hm hown
        go_wp2
        go_quiet (fail)
        go_wp2
        go_quiet (fail)
        go_wp2
        go_quiet (fail)
        go_wp2
        go_region_held3 (fun w' => w'.cell? adb = some (.int .i64 g) ∧ w'.cell? ⟨adb.block, adb.off + 1, none⟩ = some (.int .i64 t))
          (first
            | go_keep
            | (go_split_ands
               refine ⟨?_, ?_⟩
               · (rw [hgrow.cell_far adb (by simp; omega) (Ne.symm own2)]; assumption)
               · (rw [hgrow.cell_far ⟨adb.block, adb.off + 1, none⟩ (by simp; omega) (Ne.symm own2)]; assumption)))
          ((refine step_append_lies _ (by rfl) _ _ _ (by rfl) w.heap.size 39 i0 _ 2 16 Tryz.underlying22 hi0 hz0 hz1 hz2 rfl (by omega) _ out.length (cutCells out) (by rfl) (Hown.out.alloc _)
              ⟨wr.heap.size, 0, none⟩ 1 1 [.int .i64 g, .int .i64 t] (by rfl) (by rfl) (World.news_of_block (cs := #[.int .i64 g, .int .i64 t]) (t := 39) (fr := (0, 0)) (heap_alloc_new _ _)) (by simp [Value.oneCell'])
              (by omega) (by simp only [maxLen]; omega) (by omega) (by simp; have := hbl.size; omega) (wr.heap.size + 1) (by simp) ?_; intro gg cap w3 hown1 hgrow hat hlt))
        go_wp2
        go_roundw
        case rel => exact ⟨A, B2, 0, nb - 1, ca, cb - 1, rfl, rfl, by omega, by omega, by omega, by omega, MSt.mk_ rfl (by have := Hnb.out; simp at this; omega) Cuts.nil HB3.out Hm.out (nil_mrg1 _ _) hown1 (by omega), (below_app hbl hgrow hbl.size (fun k hk => (Hown.out.lt _ hk).1))⟩
        case measure => simp [lenOf]; omega
        --END b
    · by_cases h1 : nb = 0
      · subst h1
        obtain rfl : b' = [] := List.eq_nil_of_length_eq_zero hnb
        --CASE c
        obtain ⟨⟨f, s⟩, a', rfl⟩ : ∃ x l, a' = x :: l := List.exists_cons_of_length_pos (by omega)
        obtain ⟨ada, rfl, haa, ga0, ga1⟩ := hA.head
        have g0 := (hbl.cell haa).trans ga0
        have g1 := (hbl.cell (p := ⟨ada.block, ada.off + 1, none⟩) haa).trans ga1
        have q1 : 0 < na := by omega
        have p1 : (0 : Int) < (na : Int) := by omega
        obtain ⟨A2, hA2, eA2⟩ := run_tail1 (some ada) na ca (by omega)
        have hA3 : Cuts w w.heap.size A2 a' := by rw [eA2]; exact hA.tail hna hla
        have own1 : u6.ownBlock ≠ some ada.block := fun e => by have := (hown.lt _ e).1; omega
        have lza : ada.block < wr.heap.size := by have := hbl.size; omega
        have HA := Lib.hid hA; have HA3 := Lib.hid hA3
        clear eA2 hA hA3 ga0 ga1 haa
        have Hna := Lib.hid hna; have Hnb := Lib.hid hnb; have Hm := Lib.hid hm; have Hown := Lib.hid hown
        clear hna hnb hm hown
        go_wp2
        go_quiet (fail)
        go_wp2
        go_quiet (fail)
        go_wp2
        go_region_held3 (fun w' => w'.cell? ada = some (.int .i64 f) ∧ w'.cell? ⟨ada.block, ada.off + 1, none⟩ = some (.int .i64 s))
          (first
            | go_keep
            | (go_split_ands
               refine ⟨?_, ?_⟩
               · (rw [hgrow.cell_far ada (by simp; omega) (Ne.symm own1)]; assumption)
               · (rw [hgrow.cell_far ⟨ada.block, ada.off + 1, none⟩ (by simp; omega) (Ne.symm own1)]; assumption)))
          ((refine step_append_lies _ (by rfl) _ _ _ (by rfl) w.heap.size 39 i0 _ 2 16 Tryz.underlying22 hi0 hz0 hz1 hz2 rfl (by omega) _ out.length (cutCells out) (by rfl) (Hown.out.alloc _)
              ⟨wr.heap.size, 0, none⟩ 1 1 [.int .i64 f, .int .i64 s] (by rfl) (by rfl) (World.news_of_block (cs := #[.int .i64 f, .int .i64 s]) (t := 39) (fr := (0, 0)) (heap_alloc_new _ _)) (by simp [Value.oneCell'])
              (by omega) (by simp only [maxLen]; omega) (by omega) (by simp; have := hbl.size; omega) (wr.heap.size + 1) (by simp) ?_; intro gg cap w3 hown1 hgrow hat hlt))
        go_wp2
        go_roundw
        case rel => exact ⟨A2, B, na - 1, 0, ca - 1, cb, rfl, rfl, by omega, by omega, by omega, by omega, MSt.mk_ (by have := Hna.out; simp at this; omega) rfl HA3.out Cuts.nil Hm.out (mrg_nil1 _ _) hown1 (by omega), (below_app hbl hgrow hbl.size (fun k hk => (Hown.out.lt _ hk).1))⟩
        case measure => simp [lenOf]; omega
        --END c
      · have h1 := h1
        obtain ⟨⟨f, s⟩, a', rfl⟩ : ∃ x l, a' = x :: l := List.exists_cons_of_length_pos (by omega)
        obtain ⟨ada, rfl, haa, ga0, ga1⟩ := hA.head
        have g0 := (hbl.cell haa).trans ga0
        have g1 := (hbl.cell (p := ⟨ada.block, ada.off + 1, none⟩) haa).trans ga1
        have q1 : 0 < na := by omega
        have p1 : (0 : Int) < (na : Int) := by omega
        obtain ⟨A2, hA2, eA2⟩ := run_tail1 (some ada) na ca (by omega)
        have hA3 : Cuts w w.heap.size A2 a' := by rw [eA2]; exact hA.tail hna hla
        have own1 : u6.ownBlock ≠ some ada.block := fun e => by have := (hown.lt _ e).1; omega
        have lza : ada.block < wr.heap.size := by have := hbl.size; omega
        have HA := Lib.hid hA; have HA3 := Lib.hid hA3
        clear eA2 hA hA3 ga0 ga1 haa
        obtain ⟨⟨g, t⟩, b', rfl⟩ : ∃ x l, b' = x :: l := List.exists_cons_of_length_pos (by omega)
        obtain ⟨adb, rfl, hab, gb0, gb1⟩ := hB.head
        have g2 := (hbl.cell hab).trans gb0
        have g3 := (hbl.cell (p := ⟨adb.block, adb.off + 1, none⟩) hab).trans gb1
        have q2 : 0 < nb := by omega
        have p2 : (0 : Int) < (nb : Int) := by omega
        have r2 : ((nb : Int) == 0) = false := by rw [beq_eq_false_iff_ne]; omega
        obtain ⟨B2, hB2, eB2⟩ := run_tail1 (some adb) nb cb (by omega)
        have hB3 : Cuts w w.heap.size B2 b' := by rw [eB2]; exact hB.tail hnb hlb
        have own2 : u6.ownBlock ≠ some adb.block := fun e => by have := (hown.lt _ e).1; omega
        have lzb : adb.block < wr.heap.size := by have := hbl.size; omega
        have HB := Lib.hid hB; have HB3 := Lib.hid hB3
        clear eB2 hB hB3 gb0 gb1 hab
        have Hna := Lib.hid hna; have Hnb := Lib.hid hnb; have Hm := Lib.hid hm; have Hown := Lib.hid hown
        clear hna hnb hm hown
        by_cases hfg : f = g
        · subst hfg
          by_cases hst : s = t
          · subst hst
            --CASE d
            go_wp2
            go_quiet (fail)
            go_wp2

            go_region_held3 (fun w' => w'.cell? ada = some (.int .i64 f) ∧ w'.cell? ⟨ada.block, ada.off + 1, none⟩ = some (.int .i64 s))
              (first
                | go_keep
                | (go_split_ands
                   refine ⟨?_, ?_⟩
                   · (rw [hgrow.cell_far ada (by simp; omega) (Ne.symm own1)]; assumption)
                   · (rw [hgrow.cell_far ⟨ada.block, ada.off + 1, none⟩ (by simp; omega) (Ne.symm own1)]; assumption)))
              ((refine step_append_lies _ (by rfl) _ _ _ (by rfl) w.heap.size 39 i0 _ 2 16 Tryz.underlying22 hi0 hz0 hz1 hz2 rfl (by omega) _ out.length (cutCells out) (by rfl) (Hown.out.alloc _)
                  ⟨wr.heap.size, 0, none⟩ 1 1 [.int .i64 f, .int .i64 s] (by rfl) (by rfl) (World.news_of_block (cs := #[.int .i64 f, .int .i64 s]) (t := 39) (fr := (0, 0)) (heap_alloc_new _ _)) (by simp [Value.oneCell'])
                  (by omega) (by simp only [maxLen]; omega) (by omega) (by simp; have := hbl.size; omega) (wr.heap.size + 1) (by simp) ?_; intro gg cap w3 hown1 hgrow hat hlt))
            go_wp2
            go_roundw
            case rel => exact ⟨A2, B2, na - 1, nb - 1, ca - 1, cb - 1, rfl, rfl, by omega, by omega, by omega, by omega, MSt.mk_ (by have := Hna.out; simp at this; omega) (by have := Hnb.out; simp at this; omega) HA3.out HB3.out Hm.out (mrg_same _ _) hown1 (by omega), (below_app hbl hgrow hbl.size (fun k hk => (Hown.out.lt _ hk).1))⟩
            case measure => simp [lenOf]; omega
            --END d
          · skip
            --CASE e
            go_wp2
            go_quiet (fail)
            go_wp2
            go_quiet (fail)
            go_wp2
            go_quiet (fail)
            go_wp2
            go_region_held3 (fun w' => w'.cell? ada = some (.int .i64 f) ∧ w'.cell? ⟨ada.block, ada.off + 1, none⟩ = some (.int .i64 s))
              (first
                | go_keep
                | (go_split_ands
                   refine ⟨?_, ?_⟩
                   · (rw [hgrow.cell_far ada (by simp; omega) (Ne.symm own1)]; assumption)
                   · (rw [hgrow.cell_far ⟨ada.block, ada.off + 1, none⟩ (by simp; omega) (Ne.symm own1)]; assumption)))
              ((refine step_append_lies _ (by rfl) _ _ _ (by rfl) w.heap.size 39 i0 _ 2 16 Tryz.underlying22 hi0 hz0 hz1 hz2 rfl (by omega) _ out.length (cutCells out) (by rfl) (Hown.out.alloc _)
                  ⟨wr.heap.size, 0, none⟩ 1 1 [.int .i64 f, .int .i64 3] (by rfl) (by rfl) (World.news_of_block (cs := #[.int .i64 f, .int .i64 3]) (t := 39) (fr := (0, 0)) (heap_alloc_new _ _)) (by simp [Value.oneCell'])
                  (by omega) (by simp only [maxLen]; omega) (by omega) (by simp; have := hbl.size; omega) (wr.heap.size + 1) (by simp) ?_; intro gg cap w3 hown1 hgrow hat hlt))
            go_wp2
            go_roundw
            case rel => exact ⟨A2, B2, na - 1, nb - 1, ca - 1, cb - 1, rfl, rfl, by omega, by omega, by omega, by omega, MSt.mk_ (by have := Hna.out; simp at this; omega) (by have := Hnb.out; simp at this; omega) HA3.out HB3.out Hm.out (mrg_both hst _ _) hown1 (by omega), (below_app hbl hgrow hbl.size (fun k hk => (Hown.out.lt _ hk).1))⟩
            case measure => simp [lenOf]; omega
            --END e
        · by_cases hl : f < g
          · skip
            --CASE f
            go_wp2
            go_quiet (fail)
            go_wp2
            go_quiet (fail)
            go_wp2
            go_region_held3 (fun w' => w'.cell? ada = some (.int .i64 f) ∧ w'.cell? ⟨ada.block, ada.off + 1, none⟩ = some (.int .i64 s))
              (first
                | go_keep
                | (go_split_ands
                   refine ⟨?_, ?_⟩
                   · (rw [hgrow.cell_far ada (by simp; omega) (Ne.symm own1)]; assumption)
                   · (rw [hgrow.cell_far ⟨ada.block, ada.off + 1, none⟩ (by simp; omega) (Ne.symm own1)]; assumption)))
              ((refine step_append_lies _ (by rfl) _ _ _ (by rfl) w.heap.size 39 i0 _ 2 16 Tryz.underlying22 hi0 hz0 hz1 hz2 rfl (by omega) _ out.length (cutCells out) (by rfl) (Hown.out.alloc _)
                  ⟨wr.heap.size, 0, none⟩ 1 1 [.int .i64 f, .int .i64 s] (by rfl) (by rfl) (World.news_of_block (cs := #[.int .i64 f, .int .i64 s]) (t := 39) (fr := (0, 0)) (heap_alloc_new _ _)) (by simp [Value.oneCell'])
                  (by omega) (by simp only [maxLen]; omega) (by omega) (by simp; have := hbl.size; omega) (wr.heap.size + 1) (by simp) ?_; intro gg cap w3 hown1 hgrow hat hlt))
            go_wp2
            go_roundw
            case rel => exact ⟨A2, (some adb), na - 1, nb, ca - 1, cb, rfl, rfl, by omega, by omega, by omega, by omega, MSt.mk_ (by have := Hna.out; simp at this; omega) Hnb.out HA3.out HB.out Hm.out (mrg_lt hl _ _) hown1 (by omega), (below_app hbl hgrow hbl.size (fun k hk => (Hown.out.lt _ hk).1))⟩
            case measure => simp [lenOf]; omega
            --END f
          · have hng : decide (f < g) = false := decide_eq_false hl
            have hl : g < f := by omega
            --CASE g
            go_wp2
            go_quiet (fail)
            go_wp2
            go_quiet (fail)
            go_wp2
            go_quiet (fail)
            go_wp2
            go_region_held3 (fun w' => w'.cell? adb = some (.int .i64 g) ∧ w'.cell? ⟨adb.block, adb.off + 1, none⟩ = some (.int .i64 t))
              (first
                | go_keep
                | (go_split_ands
                   refine ⟨?_, ?_⟩
                   · (rw [hgrow.cell_far adb (by simp; omega) (Ne.symm own2)]; assumption)
                   · (rw [hgrow.cell_far ⟨adb.block, adb.off + 1, none⟩ (by simp; omega) (Ne.symm own2)]; assumption)))
              ((refine step_append_lies _ (by rfl) _ _ _ (by rfl) w.heap.size 39 i0 _ 2 16 Tryz.underlying22 hi0 hz0 hz1 hz2 rfl (by omega) _ out.length (cutCells out) (by rfl) (Hown.out.alloc _)
                  ⟨wr.heap.size, 0, none⟩ 1 1 [.int .i64 g, .int .i64 t] (by rfl) (by rfl) (World.news_of_block (cs := #[.int .i64 g, .int .i64 t]) (t := 39) (fr := (0, 0)) (heap_alloc_new _ _)) (by simp [Value.oneCell'])
                  (by omega) (by simp only [maxLen]; omega) (by omega) (by simp; have := hbl.size; omega) (wr.heap.size + 1) (by simp) ?_; intro gg cap w3 hown1 hgrow hat hlt))
            go_wp2
            go_roundw
            case rel => exact ⟨(some ada), B2, na, nb - 1, ca, cb - 1, rfl, rfl, by omega, by omega, by omega, by omega, MSt.mk_ Hna.out (by have := Hnb.out; simp at this; omega) HA.out HB3.out Hm.out (mrg_gt (by omega) _ _) hown1 (by omega), (below_app hbl hgrow hbl.size (fun k hk => (Hown.out.lt _ hk).1))⟩
            case measure => simp [lenOf]; omega
            --END g
end Go.Proofs.YtgambpcggengoaaGreatDoor
