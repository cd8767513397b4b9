/- 'cuspref23.Merge' puts two lists of cuts together. -/
import Derived.Test.YtgambpcggengoaaDoorRVal
import Derived.Test.YtgambpcggengoaaDoorMrg
namespace Go.Proofs.YtgambpcggengoaaDoor
open Go.RowKit
set_option maxRecDepth 100000

theorem own_drewN {w : World} {base : Nat} {e : TypeId} {size : Nat} {v : Value} {n : Nat} {xs : List Value} (h : w.ownsRow base e size v n xs) (k : Nat) : (w.drewN k).ownsRow base e size v n xs := h

/-- Where the reference's loop stands: out is told, i of a and j of b are behind. -/
def RSt (w : World) (a b : List (Int × Int)) (i j : Nat) (v6 : Value) (wr : World) : Prop :=
  ∃ out : List (Int × Int), Cut.mrg a b = out ++ Cut.mrg (a.drop i) (b.drop j) ∧ wr.ownsRow w.heap.size 34 2 v6 out.length (cutCells out) ∧ out.length + (a.length - i) + (b.length - j) ≤ 46
theorem RSt.mk_ {w w3 : World} {a b out l m : List (Int × Int)} {c : Int × Int} {i j : Nat} {v6 : Value} (hm : Cut.mrg a b = out ++ Cut.mrg l m) (hs : Cut.mrg l m = c :: Cut.mrg (a.drop i) (b.drop j))
    (ho : w3.ownsRow w.heap.size 34 2 v6 (out.length + 1) (cutCells out ++ [.int .i64 c.1, .int .i64 c.2])) (hl : out.length + 1 + (a.length - i) + (b.length - j) ≤ 46) : RSt w a b i j v6 w3 :=
  ⟨out ++ [c], by rw [hm, hs]; simp, by rw [cutCells_append]; simpa [cutCells] using ho, by simp; omega⟩

theorem own_setNew {w w2 : World} {base : Nat} {e : TypeId} {size : Nat} {v : Value} {n : Nat} {xs : List Value} {i : Nat} {u : Value} (h : w.ownsRow base e size v n xs) (h0 : w2.ownsRow base e size v n xs) :
    (w.setCell ⟨w2.heap.size, i, none⟩ u).ownsRow base e size v n xs := by
  refine ⟨h.1, ?_⟩
  rcases h.2 with h2 | ⟨g, cap, cur, hv, hg, hh, r⟩
  · exact Or.inl h2
  · have hlt := (h0.lt g (by rw [hv]; rfl)).2
    exact Or.inr ⟨g, cap, cur, hv, hg, by rw [Below.heap_setCell _ _ _ _ (by simp; omega)]; exact hh, r⟩

theorem below_app2 {B n i : Nat} {w w2 w3 : World} {o o2 : Obj} {u : Value} {row : Option Nat} (h : Below B w w2) (hg : ((((w2.alloc o).drewN n).setCell ⟨w2.heap.size, i, none⟩ u).alloc o2).grownBy w3 row) (hB : B ≤ w2.heap.size) (hr : ∀ k, row = some k → B ≤ k) : Below B w w3 := by
  have h1 : Below B w ((w2.alloc o).drewN n) := (h.alloc hB o).trans ⟨rfl, rfl, rfl, Nat.le_refl _, fun _ _ => rfl⟩
  have h2 := h1.setCell (p := ⟨w2.heap.size, i, none⟩) hB u
  exact (h2.alloc (by simp [World.setCell]; omega) o2).grown hg (by simp [World.setCell]; omega) hr

set_option maxHeartbeats 16000000 in
theorem rmerge_loop (A B : Option Addr) (ca cb : Nat) (a b : List (Int × Int)) (w : World) (hla : a.length ≤ ca) (hlb : b.length ≤ cb)
    (ha : Cuts w w.heap.size A a) (hb : Cuts w w.heap.size B b) (va : Cut.validB a = true) (vb : Cut.validB b = true) (hlen : a.length + b.length ≤ 46) :
    Calls Tryd.prog 6 #[.slice A a.length ca, .slice B b.length cb] w fun e w' => MDone w a b e w' := by
  obtain ⟨i0, hi0, hz0, hz1, hz2⟩ := info_parts cutInfo
  have HA := Lib.hid ha; have HB := Lib.hid hb; have VA := Lib.hid va; have VB := Lib.hid vb
  clear ha hb va vb
  go_enter Tryd.func6, Tryd.ntmps6
  go_wp2_with fail
  refine (rvalid_calls A ca a _ hla (by omega) HA.out).mono ?_
  rintro e w1 ⟨rfl, hb1⟩
  have e0 : validI a = 0 := (validI_yes VA.out).symm
  rw [e0]
  clear e0
  go_wp2_with fail
  refine (rvalid_calls B cb b _ hlb (by omega) ((HB.out.below hb1 (Nat.le_refl _)).more hb1.size)).mono ?_
  rintro e w2 ⟨rfl, hb2⟩
  have e0 : validI b = 0 := (validI_yes VB.out).symm
  rw [e0]
  clear e0
  have hb2' := hb1.trans (hb2.mono hb1.size)
  clear hb1 hb2
  go_wp2
  obtain ⟨na, hn⟩ : ∃ n, n = a.length := ⟨_, rfl⟩
  obtain ⟨nb, hm⟩ : ∃ n, n = b.length := ⟨_, rfl⟩
  rw [← hn, ← hm]
  have HN := Lib.hid hn; have HM := Lib.hid hm
  have hlen' : na + nb ≤ 46 := by omega
  clear hla hlb hn hm hlen
  go_loopw [6, 7, 8] (fun v6 v7 v8 wr => ∃ i j : Nat, i ≤ na ∧ j ≤ nb ∧ v7 = .int .i64 i ∧ v8 = .int .i64 j ∧ Hid (RSt w a b i j v6 wr) ∧ Below w.heap.size w wr)
    (fun _ v7 v8 _ => (na - (intOf v7).toNat) + (nb - (intOf v8).toNat))
  case atStart => exact ⟨0, 0, by omega, by omega, rfl, rfl, ⟨[], rfl, World.ownsRow_nil _ _ _ _, by have := HN.out; have := HM.out; simp; omega⟩, hb2'⟩
  case round =>
    obtain ⟨i, j, hi, hj, rfl, rfl, hS, hbl⟩ := hrel
    obtain ⟨out, hm, hown, hlen⟩ := hS.out
    rw [← HN.out, ← HM.out] at hlen
    have Hm := Lib.hid hm; have Hown := Lib.hid hown
    clear hm hown
    by_cases hia0 : i < na
    · have hia : i < a.length := by have := HN.out; omega
      by_cases hjb0 : j < nb
      · have hjb : j < b.length := by have := HM.out; omega
        obtain ⟨⟨f, s⟩, hx⟩ : ∃ x, x = a[i] := ⟨_, rfl⟩
        obtain ⟨ada, rfl, haa, ga0, ga1⟩ := HA.out.at_ i hia
        rw [← hx] at ga0 ga1
        have g0 := (hbl.cell (by rw [addr_block]; exact haa)).trans ga0
        have g1 := (hbl.cell (p := ⟨(ada.add (i * 2)).block, (ada.add (i * 2)).off + 1, none⟩) (by show (ada.add (i * 2)).block < _; rw [addr_block]; exact haa)).trans ga1
        have HX := Lib.hid hx
        have pa : (i : Int) < (na : Int) := by omega
        have ra : ((i : Int) == (na : Int)) = false := by rw [beq_eq_false_iff_ne]; omega
        have da : a.drop i = (f, s) :: a.drop (i + 1) := by rw [HX.out]; exact List.drop_eq_getElem_cons hia
        have DA := Lib.hid da
        have za : (ada.add (i * 2)).block < wr.heap.size := by rw [addr_block]; have := hbl.size; omega
        clear hx ga0 ga1 haa da
        obtain ⟨⟨g, t⟩, hy⟩ : ∃ x, x = b[j] := ⟨_, rfl⟩
        obtain ⟨adb, rfl, hab, gb0, gb1⟩ := HB.out.at_ j hjb
        rw [← hy] at gb0 gb1
        have g2 := (hbl.cell (by rw [addr_block]; exact hab)).trans gb0
        have g3 := (hbl.cell (p := ⟨(adb.add (j * 2)).block, (adb.add (j * 2)).off + 1, none⟩) (by show (adb.add (j * 2)).block < _; rw [addr_block]; exact hab)).trans gb1
        have HY := Lib.hid hy
        have pb : (j : Int) < (nb : Int) := by omega
        have rb : ((j : Int) == (nb : Int)) = false := by rw [beq_eq_false_iff_ne]; omega
        have db : b.drop j = (g, t) :: b.drop (j + 1) := by rw [HY.out]; exact List.drop_eq_getElem_cons hjb
        have DB := Lib.hid db
        have zb : (adb.add (j * 2)).block < wr.heap.size := by rw [addr_block]; have := hbl.size; omega
        clear hy gb0 gb1 hab db
        by_cases hfg : f = g
        · subst hfg
          by_cases hst : s = t
          · subst hst
            --CASE f
            go_wp2
            go_quiet (fail)
            go_wp2
            go_quiet (fail)
            simp only [World.drewN_drewN]
            generalize hw2 : wr.drewN _ = w2
            have hbl2 : Below w.heap.size w w2 := by rw [← hw2]; exact hbl.trans ⟨rfl, rfl, rfl, Nat.le_refl _, fun _ _ => rfl⟩
            have hz2' : w2.heap.size = wr.heap.size := by rw [← hw2]; rfl
            have Hown2 := Lib.hid (show w2.ownsRow w.heap.size 34 2 u6 out.length (cutCells out) by rw [← hw2]; exact Hown.out)
            have g0' : w2.cell? (ada.add (i * 2)) = some (.int .i64 f) := by rw [← hw2]; exact g0
            have g1' : w2.cell? ⟨(ada.add (i * 2)).block, (ada.add (i * 2)).off + 1, none⟩ = some (.int .i64 s) := by rw [← hw2]; exact g1
            have g3' : ∀ o, (w2.alloc o).cell? ⟨(adb.add (j * 2)).block, (adb.add (j * 2)).off + 1, none⟩ = some (.int .i64 s) := fun o => by
              rw [World.cell?_alloc_lt w2 o ⟨(adb.add (j * 2)).block, (adb.add (j * 2)).off + 1, none⟩ (by rw [hz2']; exact zb), ← hw2]; exact g3
            clear hw2 hz2' g0 g1 g2 g3 za zb hbl
            go_wp2
            go_quiet (fail)
            go_wp2_with (at_builtin; (refine wpList_append_own_at _ (by rfl) (.tmp 41) (.tmp 43) 22 (by rfl) w.heap.size 34 i0 _ 2 16 Tryd.underlying22 hi0 hz0 hz1 hz2 rfl (by omega) _ out.length (cutCells out) (by rfl) (by first | exact ((own_drewN (Hown2.out.alloc _) _)).alloc _ | exact (own_setNew (own_drewN (Hown2.out.alloc _) _) Hown2.out).alloc _) ⟨w2.heap.size + 1, 0, none⟩ 1 1 [.int .i64 f, .int .i64 s] (by rfl) (by rfl) (news_next #[.int .i64 f, .int .i64 s] 34 (by simp [World.setCell])) (by simp [Value.oneCell']) (by simp only [maxLen]; omega) (by omega) (by simp; have := hbl2.size; omega) ?_); intro v3 w3 hown1 hgrow hnil hat)
            go_roundw
            case rel => exact ⟨i + 1, j + 1, by omega, by omega, by first | rfl | go_num, by first | rfl | go_num, RSt.mk_ Hm.out (by rw [DA.out, DB.out, mrg_same]) hown1 (by have := HN.out; have := HM.out; omega), below_app (hbl2.alloc hbl2.size _) hgrow (by simp; have := hbl2.size; omega) (fun k hk => (Hown2.out.lt _ hk).1)⟩
            case measure => simp [intOf]; omega
            --END f
          · skip
            --CASE g
            go_wp2
            go_quiet (fail)
            go_wp2
            go_quiet (fail)
            simp only [World.drewN_drewN]
            generalize hw2 : wr.drewN _ = w2
            have hbl2 : Below w.heap.size w w2 := by rw [← hw2]; exact hbl.trans ⟨rfl, rfl, rfl, Nat.le_refl _, fun _ _ => rfl⟩
            have hz2' : w2.heap.size = wr.heap.size := by rw [← hw2]; rfl
            have Hown2 := Lib.hid (show w2.ownsRow w.heap.size 34 2 u6 out.length (cutCells out) by rw [← hw2]; exact Hown.out)
            have g0' : w2.cell? (ada.add (i * 2)) = some (.int .i64 f) := by rw [← hw2]; exact g0
            have g1' : w2.cell? ⟨(ada.add (i * 2)).block, (ada.add (i * 2)).off + 1, none⟩ = some (.int .i64 s) := by rw [← hw2]; exact g1
            have g3' : ∀ o, (w2.alloc o).cell? ⟨(adb.add (j * 2)).block, (adb.add (j * 2)).off + 1, none⟩ = some (.int .i64 t) := fun o => by
              rw [World.cell?_alloc_lt w2 o ⟨(adb.add (j * 2)).block, (adb.add (j * 2)).off + 1, none⟩ (by rw [hz2']; exact zb), ← hw2]; exact g3
            clear hw2 hz2' g0 g1 g2 g3 za zb hbl
            have hne : (t != s) = true := by rw [bne_iff_ne]; exact fun e => hst e.symm
            go_wp2
            go_quiet (fail)
            go_wp2_with (at_builtin; refine wpList_append_own_at _ (by rfl) (.tmp 41) (.tmp 43) 22 (by rfl) w.heap.size 34 i0 _ 2 16 Tryd.underlying22 hi0 hz0 hz1 hz2 rfl (by omega) _ out.length (cutCells out) (by rfl) (by first | exact ((own_drewN (Hown2.out.alloc _) _)).alloc _ | exact (own_setNew (own_drewN (Hown2.out.alloc _) _) Hown2.out).alloc _) ⟨w2.heap.size + 1, 0, none⟩ 1 1 [.int .i64 f, .int .i64 3] (by rfl) (by rfl) (news_next #[.int .i64 f, .int .i64 3] 34 (by simp [World.setCell])) (by simp [Value.oneCell']) (by simp only [maxLen]; omega) (by omega) (by simp; have := hbl2.size; omega) ?_; intro v3 w3 hown1 hgrow hnil hat)
            go_roundw
            case rel => exact ⟨i + 1, j + 1, by omega, by omega, by first | rfl | go_num, by first | rfl | go_num, RSt.mk_ Hm.out (by rw [DA.out, DB.out, mrg_both hst]) hown1 (by have := HN.out; have := HM.out; omega), below_app2 hbl2 hgrow hbl2.size (fun k hk => (Hown2.out.lt _ hk).1)⟩
            case measure => simp [intOf]; omega
            --END g
        · by_cases hl : f < g
          · skip
            --CASE d
            have hl1 : decide (f < g) = true := decide_eq_true hl
            go_wp2
            go_quiet (fail)
            go_wp2_with (at_builtin; refine wpList_append_own_at _ (by rfl) (.tmp 73) (.tmp 78) 22 (by rfl) w.heap.size 34 i0 _ 2 16 Tryd.underlying22 hi0 hz0 hz1 hz2 rfl (by omega) _ out.length (cutCells out) (by rfl) ((own_drewN Hown.out _).alloc _) _ 1 1 [.int .i64 f, .int .i64 s] (by rfl) (by rfl) (World.news_of_block (cs := #[.int .i64 f, .int .i64 s]) (t := 34) (fr := (0, 0)) (heap_alloc_new _ _)) (by simp [Value.oneCell']) (by simp only [maxLen]; omega) (by omega) (by simp; have := hbl.size; omega) ?_; intro v3 w3 hown1 hgrow hnil hat)
            go_roundw
            case rel => exact ⟨i + 1, j, by omega, by omega, by first | rfl | go_num, by first | rfl | go_num, RSt.mk_ Hm.out (by rw [DA.out, DB.out, mrg_lt hl]) hown1 (by have := HN.out; have := HM.out; omega), below_app hbl hgrow hbl.size (fun k hk => (Hown.out.lt _ hk).1)⟩
            case measure => simp [intOf]; omega
            --END d
          · skip
            --CASE e
            have hl1 : decide (f < g) = false := decide_eq_false hl
            have hl2 : decide (g < f) = true := decide_eq_true (by omega)
            go_wp2
            go_quiet (fail)
            go_wp2
            go_quiet (fail)
            go_wp2_with (at_builtin; refine wpList_append_own_at _ (by rfl) (.tmp 100) (.tmp 105) 22 (by rfl) w.heap.size 34 i0 _ 2 16 Tryd.underlying22 hi0 hz0 hz1 hz2 rfl (by omega) _ out.length (cutCells out) (by rfl) ((own_drewN Hown.out _).alloc _) _ 1 1 [.int .i64 g, .int .i64 t] (by rfl) (by rfl) (World.news_of_block (cs := #[.int .i64 g, .int .i64 t]) (t := 34) (fr := (0, 0)) (heap_alloc_new _ _)) (by simp [Value.oneCell']) (by simp only [maxLen]; omega) (by omega) (by simp; have := hbl.size; omega) ?_; intro v3 w3 hown1 hgrow hnil hat)
            go_roundw
            case rel => exact ⟨i, j + 1, by omega, by omega, by first | rfl | go_num, by first | rfl | go_num, RSt.mk_ Hm.out (by rw [DA.out, DB.out, mrg_gt (by omega)]) hown1 (by have := HN.out; have := HM.out; omega), below_app hbl hgrow hbl.size (fun k hk => (Hown.out.lt _ hk).1)⟩
            case measure => simp [intOf]; omega
            --END e
      · skip
        --CASE c
        obtain ⟨⟨f, s⟩, hx⟩ : ∃ x, x = a[i] := ⟨_, rfl⟩
        obtain ⟨ada, rfl, haa, ga0, ga1⟩ := HA.out.at_ i hia
        rw [← hx] at ga0 ga1
        have g0 := (hbl.cell (by rw [addr_block]; exact haa)).trans ga0
        have g1 := (hbl.cell (p := ⟨(ada.add (i * 2)).block, (ada.add (i * 2)).off + 1, none⟩) (by show (ada.add (i * 2)).block < _; rw [addr_block]; exact haa)).trans ga1
        have HX := Lib.hid hx
        have pa : (i : Int) < (na : Int) := by omega
        have ra : ((i : Int) == (na : Int)) = false := by rw [beq_eq_false_iff_ne]; omega
        have da : a.drop i = (f, s) :: a.drop (i + 1) := by rw [HX.out]; exact List.drop_eq_getElem_cons hia
        have DA := Lib.hid da
        have za : (ada.add (i * 2)).block < wr.heap.size := by rw [addr_block]; have := hbl.size; omega
        clear hx ga0 ga1 haa da
        have j1 : ((j : Int) == (nb : Int)) = true := by rw [beq_iff_eq]; omega
        go_wp2
        go_quiet (fail)
        go_wp2_with (at_builtin; refine wpList_append_own_at _ (by rfl) (.tmp 73) (.tmp 78) 22 (by rfl) w.heap.size 34 i0 _ 2 16 Tryd.underlying22 hi0 hz0 hz1 hz2 rfl (by omega) _ out.length (cutCells out) (by rfl) ((own_drewN Hown.out _).alloc _) _ 1 1 [.int .i64 f, .int .i64 s] (by rfl) (by rfl) (World.news_of_block (cs := #[.int .i64 f, .int .i64 s]) (t := 34) (fr := (0, 0)) (heap_alloc_new _ _)) (by simp [Value.oneCell']) (by simp only [maxLen]; omega) (by omega) (by simp; have := hbl.size; omega) ?_; intro v3 w3 hown1 hgrow hnil hat)
        go_roundw
        case rel => exact ⟨i + 1, j, by omega, by omega, by first | rfl | go_num, by first | rfl | go_num, RSt.mk_ Hm.out (by rw [DA.out, show b.drop j = [] from List.drop_eq_nil_of_le (by have := HM.out; omega), mrg_nil1]) hown1 (by have := HN.out; have := HM.out; omega), below_app hbl hgrow hbl.size (fun k hk => (Hown.out.lt _ hk).1)⟩
        case measure => simp [intOf]; omega
        --END c
    · have hia := hia0
      by_cases hjb0 : j < nb
      · have hjb : j < b.length := by have := HM.out; omega
        --CASE b
        obtain ⟨⟨g, t⟩, hy⟩ : ∃ x, x = b[j] := ⟨_, rfl⟩
        obtain ⟨adb, rfl, hab, gb0, gb1⟩ := HB.out.at_ j hjb
        rw [← hy] at gb0 gb1
        have g2 := (hbl.cell (by rw [addr_block]; exact hab)).trans gb0
        have g3 := (hbl.cell (p := ⟨(adb.add (j * 2)).block, (adb.add (j * 2)).off + 1, none⟩) (by show (adb.add (j * 2)).block < _; rw [addr_block]; exact hab)).trans gb1
        have HY := Lib.hid hy
        have pb : (j : Int) < (nb : Int) := by omega
        have rb : ((j : Int) == (nb : Int)) = false := by rw [beq_eq_false_iff_ne]; omega
        have db : b.drop j = (g, t) :: b.drop (j + 1) := by rw [HY.out]; exact List.drop_eq_getElem_cons hjb
        have DB := Lib.hid db
        have zb : (adb.add (j * 2)).block < wr.heap.size := by rw [addr_block]; have := hbl.size; omega
        clear hy gb0 gb1 hab db
        have i1 : ((i : Int) == (na : Int)) = true := by rw [beq_iff_eq]; omega
        have i2 : decide (i < na) = false := decide_eq_false hia
        go_wp2
        go_quiet (fail)
        go_wp2
        go_quiet (fail)
        go_wp2_with (at_builtin; refine wpList_append_own_at _ (by rfl) (.tmp 100) (.tmp 105) 22 (by rfl) w.heap.size 34 i0 _ 2 16 Tryd.underlying22 hi0 hz0 hz1 hz2 rfl (by omega) _ out.length (cutCells out) (by rfl) ((own_drewN Hown.out _).alloc _) _ 1 1 [.int .i64 g, .int .i64 t] (by rfl) (by rfl) (World.news_of_block (cs := #[.int .i64 g, .int .i64 t]) (t := 34) (fr := (0, 0)) (heap_alloc_new _ _)) (by simp [Value.oneCell']) (by simp only [maxLen]; omega) (by omega) (by simp; have := hbl.size; omega) ?_; intro v3 w3 hown1 hgrow hnil hat)
        go_roundw
        case rel => exact ⟨i, j + 1, by omega, by omega, by first | rfl | go_num, by first | rfl | go_num, RSt.mk_ Hm.out (by rw [DB.out, show a.drop i = [] from List.drop_eq_nil_of_le (by have := HN.out; omega), nil_mrg1]) hown1 (by have := HN.out; have := HM.out; omega), below_app hbl hgrow hbl.size (fun k hk => (Hown.out.lt _ hk).1)⟩
        case measure => simp [intOf]; omega
        --END b
      · skip
        --CASE a
        have i2 : decide (i < na) = false := decide_eq_false hia
        have j2 : decide (j < nb) = false := decide_eq_false hjb0
        go_wp2
        go_ret2
        exact MDone.mk_ rfl (by rw [Hm.out, List.drop_eq_nil_of_le (by have := HN.out; omega), List.drop_eq_nil_of_le (by have := HM.out; omega), Cut.mrg, List.append_nil]; exact Hown.out) hbl
        --END a
end Go.Proofs.YtgambpcggengoaaDoor
