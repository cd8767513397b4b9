/- 'dyad': a float near to a sum of roots. -/
import Derived.Test.YtjbdadhggejoiaaGreatDoorM24

namespace Go.Proofs.YtjbdadhggejoiaaGreatDoor
open Go.RowKit
set_option maxRecDepth 100000

theorem VarE.ext {w2 wx wy : World} {B bd : Nat} {x : Ex} (h : VarE w2 wx B bd x) (hg : wx.grownBy wy none) : VarE w2 wy B bd x := by
  obtain ⟨t, h1, h2, h3, h4⟩ := h
  exact ⟨t, heap_grown h1 hg, h2.grown0 hg, h3, grown_trans h4 hg⟩
theorem size_alloc' (w : World) (o : Obj) : (w.alloc o).heap.size = w.heap.size + 1 := by simp
theorem drew_grown (w : World) : w.grownBy w.drew none := ⟨rfl, rfl, rfl, Nat.le_refl _, fun _ _ _ => rfl⟩
theorem grown_refl (w : World) : w.grownBy w none := ⟨rfl, rfl, rfl, Nat.le_refl _, fun _ _ _ => rfl⟩
theorem cell_set_out {w : World} {b i : Nat} {v : Value} {a : Addr} (h : a.block ≠ b) : (w.setCell ⟨b, i, none⟩ v).cell? a = w.cell? a :=
  World.cell?_setCell_other _ _ _ _ (fun e => h (by rw [← e]))
theorem heap_set_out {w : World} {b i k : Nat} {v : Value} (h : k ≠ b) : (w.setCell ⟨b, i, none⟩ v).heap[k]? = w.heap[k]? := heap_setCell_other w ⟨b, i, none⟩ k v h
theorem Duo.out {w : World} {b i r : Nat} {v : Value} (h : Duo w r) (hne : r ≠ b) : Duo (w.setCell ⟨b, i, none⟩ v) r := by
  obtain ⟨x, e, t, h⟩ := h
  exact ⟨x, e, t, (heap_set_out hne).trans h⟩
theorem VarE.other {w2 wx : World} {B B' bd : Nat} {x : Ex} (h : VarE w2 wx B bd x) (hne : B ≠ B') (h' : Duo wx B') (hB : w2.heap.size ≤ B') (y : Option Addr) (e : Int) : VarE w2 ((wx.setCell ⟨B', 0, none⟩ (.pointer y)).setCell ⟨B', 1, none⟩ (.int .i64 e)) B bd x := by
  obtain ⟨t, h1, h2, h3, h4⟩ := h
  exact ⟨t, by rw [heap_set_out hne, heap_set_out hne]; exact h1, h2.grownR (h'.set y e).2 (duo_ne h' h2) h'.rec', h3, grown_set_new (grown_set_new h4 hB) hB⟩
theorem row4 {w : World} {b : Nat} {x y z x' : Value} {t : TypeId} (h : w.heap[b]? = some (.cells #[x, y, z, x'] t (0, 0))) : w.cell? ⟨b, 0, none⟩ = some x ∧ w.cell? ⟨b, 1, none⟩ = some y ∧ w.cell? ⟨b, 2, none⟩ = some z ∧ w.cell? ⟨b, 3, none⟩ = some x' := by
  refine ⟨?_, ?_, ?_, ?_⟩ <;> simp [World.cell?, h]
theorem near_put {w2 wX : World} {B6 B7 nl nh BA : Nat} {Ln : Ex} {O : Obj} (hD6 : Duo wX B6) (hD7 : Duo wX B7) (hne : B6 ≠ B7) (h6 : w2.heap.size ≤ B6) (h7 : w2.heap.size ≤ B7) (hA6 : BA ≠ B6) (hA7 : BA ≠ B7) (hIl : IR wX nl Ln.z) (hIh : IR wX nh Ln.z) (hg : w2.grownBy wX none) (hr : wX.heap[BA]? = some O) :
    (fun W : World => VarE w2 W B6 nl Ln ∧ VarE w2 W B7 nh Ln ∧ W.heap[BA]? = some O) ((((wX.setCell ⟨B6, 0, none⟩ (.pointer (some ⟨nl, 0, none⟩))).setCell ⟨B6, 1, none⟩ (.int .i64 Ln.e)).setCell ⟨B7, 0, none⟩ (.pointer (some ⟨nh, 0, none⟩))).setCell ⟨B7, 1, none⟩ (.int .i64 Ln.e)) := by
  have hs := hD6.set (some ⟨nl, 0, none⟩) Ln.e
  have hD7' : Duo ((wX.setCell ⟨B6, 0, none⟩ (.pointer (some ⟨nl, 0, none⟩))).setCell ⟨B6, 1, none⟩ (.int .i64 Ln.e)) B7 := (hD7.out (fun h => hne h.symm)).out (fun h => hne h.symm)
  refine ⟨(VarE.set hD6 hIl h6 hg).other hne hD7' h7 _ _, VarE.set hD7' (hIh.grownR hs.2 (duo_ne hD6 hIh) hD6.rec') h7 (grown_set_new (grown_set_new hg h6) h6), ?_⟩
  exact (heap_set_out hA7).trans ((heap_set_out hA7).trans ((heap_set_out hA6).trans ((heap_set_out hA6).trans hr)))
theorem grown_drews (w : World) (n : Nat) : w.grownBy (w.drewN n) none := ⟨rfl, rfl, rfl, Nat.le_refl _, fun _ _ _ => rfl⟩
/-- what a round of 'near' takes and leaves -/
structure NStep1 (x rx Lc Ln : Ex) : Prop where
  root : ∀ (W : World) (v : Value), ER W v x → Calls Tryz.prog 127 #[v, .int .i64 128] W fun en w' => EDone2 W rx rx en w'
  plus : explus Lc rx = Ln
  sm1 : Lc.sm
  sm2 : rx.sm

set_option maxHeartbeats 4000000 in
theorem snear_calls (b1 b2 b3 : Nat) (c p q rp rq L1 L2 : Ex) (f : Nat) (w : World) (hI1 : IR w b1 c.z) (hI2 : IR w b2 p.z) (hI3 : IR w b3 q.z) (S0 : NStep1 p rp c L1) (S1 : NStep1 q rq L1 L2)
    (hfl : ∀ (W : World) (v : Value), ER W v L2 → Calls Tryz.prog 129 #[v] W fun en w' => en = .returned (.tuple #[.float .f64 f, .float .f64 f]) ∧ W.grownBy w' none) :
    Calls Tryz.prog 98 #[SV b1 b2 b3 c p q, .int .i64 128] w fun en w' => en = .returned (.tuple #[.float .f64 f, .float .f64 f]) ∧ w.grownBy w' none := by
  unfold SV
  have hl1 := hI1.lt
  have hl2 := hI2.lt
  have hl3 := hI3.lt
  have H1 := Lib.hid hI1
  have H2 := Lib.hid hI2
  have H3 := Lib.hid hI3
  have HF := Lib.hid hfl
  have HS := Lib.hid (And.intro S0 S1)
  clear hI1 hI2 hI3 hfl S0 S1
  go_enter Tryz.func98, Tryz.ntmps98
  go_upto_region 1 with fail
  obtain ⟨w2, hw2⟩ : ∃ w2, w2 = w.alloc (.cells #[.pointer (some ⟨b1, 0, none⟩), .int .i64 c.e, .pointer (some ⟨b2, 0, none⟩), .int .i64 p.e, .pointer (some ⟨b3, 0, none⟩), .int .i64 q.e] 123) := ⟨_, rfl⟩
  have r0 : w2.heap[w.heap.size]? = some (.cells #[.pointer (some ⟨b1, 0, none⟩), .int .i64 c.e, .pointer (some ⟨b2, 0, none⟩), .int .i64 p.e, .pointer (some ⟨b3, 0, none⟩), .int .i64 q.e] 123 (0, 0)) := by rw [hw2]; exact heap_at rfl
  have hg2 : w.grownBy w2 none := by rw [hw2]; exact grown_alloc _ _ _
  have hs2 : w.heap.size < w2.heap.size := by rw [hw2]; simp
  rw [← hw2]
  obtain ⟨x0, x1, x2, x3, x4, x5⟩ := row6 r0
  have HG2 := Lib.hid hg2
  have K7 : Hid (∀ w' : World, w2.grownBy w' none → w'.cell? ⟨w.heap.size, 2, none⟩ = some (.pointer (some ⟨b2, 0, none⟩)) ∧ w'.cell? ⟨w.heap.size, 3, none⟩ = some (.int .i64 p.e) ∧ w'.cell? ⟨w.heap.size, 4, none⟩ = some (.pointer (some ⟨b3, 0, none⟩)) ∧ w'.cell? ⟨w.heap.size, 5, none⟩ = some (.int .i64 q.e)) := fun w' h =>
    ⟨cell_ext h x2, cell_ext h x3, cell_ext h x4, cell_ext h x5⟩
  clear hw2 r0 hg2
  go_cut [6, 7] (fun v6 v7 wx => ∃ B6 B7, v6 = .pointer (some ⟨B6, 0, none⟩) ∧ v7 = .pointer (some ⟨B7, 0, none⟩) ∧ B6 ≠ B7 ∧ VarE w2 wx B6 b1 c ∧ VarE w2 wx B7 b1 c)
  case first =>
    have hI := H1.out.grown0 HG2.out
    have HV1 := Lib.hid (VarE.alloc (t := 120) hI (grown_refl w2))
    have HV2 := Lib.hid (VarE.alloc (t := 120) (hI.alloc (.cells #[.pointer (some ⟨b1, 0, none⟩), .int .i64 c.e] 120)) (grown_alloc w2 (.cells #[.pointer (some ⟨b1, 0, none⟩), .int .i64 c.e] 120) none))
    rw [size_alloc'] at HV2
    have HW1 := Lib.hid (HV1.out.ext (grown_alloc _ (.cells #[.pointer (some ⟨b1, 0, none⟩), .int .i64 c.e] 120) _))
    clear hI
    go_region
    all_goals go_wp2
    all_goals go_meet
    · exact ⟨_, _, rfl, rfl, by omega, HW1.out.ext (drew_grown _), HV2.out.ext (drew_grown _)⟩
    · exact ⟨_, _, rfl, rfl, by omega, HV2.out.ext (drew_grown _), HW1.out.ext (drew_grown _)⟩
  case rest =>
    obtain ⟨B6, B7, rfl, rfl, hB67, hV6, hV7⟩ := hcut
    obtain ⟨w3, hw3⟩ : ∃ w3, w3 = wc := ⟨_, rfl⟩
    subst hw3
    have hg3 := hV6.choose_spec.2.2.2
    obtain ⟨x2, x3, x4, x5⟩ := K7.out _ hg3
    have HV6 := Lib.hid hV6
    have HV7 := Lib.hid hV7
    have hs3 := hg3.size
    have hB6 := hV6.choose_spec.2.2.1
    have hB7 := hV7.choose_spec.2.2.1
    have hB6l := (Array.getElem?_eq_some_iff.1 hV6.choose_spec.1).1
    have hB7l := (Array.getElem?_eq_some_iff.1 hV7.choose_spec.1).1
    have HG3 := Lib.hid hg3
    clear hV6 hV7 hg3 x0 x1
    go_wp2
    go_loopw [26] (fun i wr => ∃ k : Nat, k ≤ 2 ∧ i = .int .i64 k ∧ ∃ bl bh, VarE w2 wr B6 bl (if k = 0 then c else if k = 1 then L1 else L2) ∧ VarE w2 wr B7 bh (if k = 0 then c else if k = 1 then L1 else L2) ∧ wr.heap[w3.heap.size]? = some (.cells #[.pointer (some ⟨b2, 0, none⟩), .int .i64 p.e, .pointer (some ⟨b3, 0, none⟩), .int .i64 q.e] 120 (0, 0))) (fun i _ => 2 - (intOf i).toNat)
    case atStart => exact ⟨0, by omega, rfl, b1, b1, HV6.out.ext (grown_alloc _ _ _), HV7.out.ext (grown_alloc _ _ _), heap_alloc_new w3 _⟩
    case round =>
      obtain ⟨k, hk, rfl, bl, bh, hV6, hV7, hrA⟩ := hrel
      clear x2 x3 x4 x5 K7 HV6 HV7
      obtain ⟨t6, hr6, hIl, _, hgr⟩ := hV6
      obtain ⟨t7, hr7, hIh, _, _⟩ := hV7
      have HG := Lib.hid hgr
      rcases (show k = 2 ∨ k = 0 ∨ k = 1 by omega) with rfl | hk01
      · simp only [show (2 : Nat) ≠ 0 by decide, show (2 : Nat) ≠ 1 by decide, if_false] at hIl hIh hr6 hr7
        obtain ⟨y0, y1⟩ := row2 hr6
        obtain ⟨z0, z1⟩ := row2 hr7
        have HL := Lib.hid hIl
        have HH := Lib.hid hIh
        have hgr0 := Lib.hid (grown_trans HG2.out hgr)
        clear hr6 hr7 hrA hIl hIh hgr hk
        go_wp2_with fail
        refine (HF.out _ _ ⟨bl, rfl, HL.out⟩).mono ?_
        rintro e1 w8 ⟨rfl, hg8⟩
        obtain ⟨z0, z1⟩ : w8.cell? ⟨B7, 0, none⟩ = some (.pointer (some ⟨bh, 0, none⟩)) ∧ w8.cell? ⟨B7, 1, none⟩ = some (.int .i64 L2.e) := ⟨cell_ext hg8 z0, cell_ext hg8 z1⟩
        have HH8 := Lib.hid (HH.out.grown0 hg8)
        have HG8 := Lib.hid (grown_trans hgr0.out hg8)
        clear hg8 y0 y1
        go_wp2_with fail
        refine (HF.out _ _ ⟨bh, rfl, HH8.out⟩).mono ?_
        rintro e1 w9 ⟨rfl, hg9⟩
        have HG9 := Lib.hid (grown_trans HG8.out hg9)
        clear hg9
        go_wp2
        go_ret2
        exact ⟨rfl, HG9.out⟩
      · rcases hk01 with rfl | rfl
        · simp only [show (1 : Nat) ≠ 0 by decide, if_false, if_true] at hIl hIh hr6 hr7
          obtain ⟨s0, s1, s2, s3⟩ := row4 hrA
          have hsr : w3.heap.size < wr.heap.size := (Array.getElem?_eq_some_iff.1 hrA).1
          have hs6 : B6 < wr.heap.size := (Array.getElem?_eq_some_iff.1 hr6).1
          have hs7 : B7 < wr.heap.size := (Array.getElem?_eq_some_iff.1 hr7).1
          have HX := Lib.hid (H2.out.grown0 (grown_trans HG2.out hgr))
          have HLl := Lib.hid hIl
          have HLh := Lib.hid hIh
          have HR := Lib.hid (And.intro hr6 (And.intro hr7 hrA))
          clear hIl hIh hr6 hr7 hrA hgr
          go_wp2_with fail
          refine (HS.out.1.root _ _ ⟨b2, rfl, HX.out.grown0 (grown_alloc _ _ _)⟩).mono ?_
          rintro e1 w5 ⟨v, u, rfl, ⟨ra, rfl, hra⟩, ⟨rb, rfl, hrb⟩, hb5⟩
          unfold EV
          have hg5 : wr.grownBy w5 none := grown_trans (grown_alloc _ _ _) (grown_of_below hb5 none)
          have hs5 := hg5.size
          go_upto_region 6 with fail
          obtain ⟨w6, hw6⟩ : ∃ w6, w6 = (w5.alloc (.cells #[.pointer (some ⟨ra, 0, none⟩), .int .i64 rp.e] 120)).alloc (.cells #[.pointer (some ⟨rb, 0, none⟩), .int .i64 rp.e] 120) := ⟨_, rfl⟩
          have hg56 : w5.grownBy w6 none := by rw [hw6]; exact grown_trans (grown_alloc _ _ _) (grown_alloc _ _ _)
          have r10 : w6.heap[w5.heap.size]? = some (.cells #[.pointer (some ⟨ra, 0, none⟩), .int .i64 rp.e] 120 (0, 0)) := by rw [hw6]; exact heap_old (heap_at rfl)
          have r11 : w6.heap[w5.heap.size + 1]? = some (.cells #[.pointer (some ⟨rb, 0, none⟩), .int .i64 rp.e] 120 (0, 0)) := by rw [hw6]; exact heap_at (by simp)
          rw [← hw6]
          have hgr6 := grown_trans hg5 hg56
          obtain ⟨hr6, hr7, hrA⟩ := HR.out
          have h66 := heap_grown hr6 hgr6
          have h76 := heap_grown hr7 hgr6
          obtain ⟨y0, y1⟩ := row2 h66
          obtain ⟨z0, z1⟩ := row2 h76
          obtain ⟨u0, u1⟩ := row2 r10
          obtain ⟨v0, v1⟩ := row2 r11
          have HGr6 := Lib.hid hgr6
          have HA6 := Lib.hid (hra.grown0 hg56)
          have HB6' := Lib.hid (hrb.grown0 hg56)
          have HLl6 := Lib.hid (HLl.out.grown0 hgr6)
          have HLh6 := Lib.hid (HLh.out.grown0 hgr6)
          have hD6 : Duo w6 B6 := ⟨_, _, _, h66⟩
          have hD7 : Duo w6 B7 := ⟨_, _, _, h76⟩
          obtain ⟨_, _, _, _, fy0, fy1⟩ := hD6.open
          obtain ⟨_, _, _, _, fz0, fz1⟩ := hD7.open
          have KS : Hid (∀ w' : World, w6.grownBy w' none → w'.cell? ⟨w5.heap.size, 0, none⟩ = some (.pointer (some ⟨ra, 0, none⟩)) ∧ w'.cell? ⟨w5.heap.size, 1, none⟩ = some (.int .i64 rp.e) ∧ w'.cell? ⟨w5.heap.size + 1, 0, none⟩ = some (.pointer (some ⟨rb, 0, none⟩)) ∧ w'.cell? ⟨w5.heap.size + 1, 1, none⟩ = some (.int .i64 rp.e) ∧ Duo w' B6 ∧ Duo w' B7 ∧ w'.heap[w3.heap.size]? = some (.cells #[.pointer (some ⟨b2, 0, none⟩), .int .i64 p.e, .pointer (some ⟨b3, 0, none⟩), .int .i64 q.e] 120 (0, 0))) := fun w' h =>
            ⟨cell_ext h u0, cell_ext h u1, cell_ext h v0, cell_ext h v1, hD6.grown h (by simp), hD7.grown h (by simp), heap_grown hrA (grown_trans hgr6 h)⟩
          have KF : Hid (∀ w' : World, w6.grownBy w' none → w'.cell? ⟨B6, 0, none⟩ = some (.pointer (some ⟨bl, 0, none⟩)) ∧ w'.cell? ⟨B6, 1, none⟩ = some (.int .i64 c.e) ∧ w'.cell? ⟨B7, 0, none⟩ = some (.pointer (some ⟨bh, 0, none⟩)) ∧ w'.cell? ⟨B7, 1, none⟩ = some (.int .i64 c.e) ∧ w'.frozen? ⟨B6, 0, none⟩ = false ∧ w'.frozen? ⟨B6, 1, none⟩ = false ∧ w'.frozen? ⟨B7, 0, none⟩ = false ∧ w'.frozen? ⟨B7, 1, none⟩ = false) := fun w' h => by
            obtain ⟨_, _, _, _, g0, g1⟩ := (hD6.grown h (by simp)).open
            obtain ⟨_, _, _, _, k0, k1⟩ := (hD7.grown h (by simp)).open
            exact ⟨cell_ext h y0, cell_ext h y1, cell_ext h z0, cell_ext h z1, g0, g1, k0, k1⟩
          have K6 : Hid (∀ (w' : World) (y : Option Addr) (e : Int), (w'.cell? ⟨w5.heap.size, 0, none⟩ = some (.pointer (some ⟨ra, 0, none⟩)) ∧ w'.cell? ⟨w5.heap.size, 1, none⟩ = some (.int .i64 rp.e) ∧ w'.cell? ⟨w5.heap.size + 1, 0, none⟩ = some (.pointer (some ⟨rb, 0, none⟩)) ∧ w'.cell? ⟨w5.heap.size + 1, 1, none⟩ = some (.int .i64 rp.e) ∧ Duo w' B6 ∧ Duo w' B7 ∧ w'.heap[w3.heap.size]? = some (.cells #[.pointer (some ⟨b2, 0, none⟩), .int .i64 p.e, .pointer (some ⟨b3, 0, none⟩), .int .i64 q.e] 120 (0, 0))) → (fun w' : World => w'.cell? ⟨w5.heap.size, 0, none⟩ = some (.pointer (some ⟨ra, 0, none⟩)) ∧ w'.cell? ⟨w5.heap.size, 1, none⟩ = some (.int .i64 rp.e) ∧ w'.cell? ⟨w5.heap.size + 1, 0, none⟩ = some (.pointer (some ⟨rb, 0, none⟩)) ∧ w'.cell? ⟨w5.heap.size + 1, 1, none⟩ = some (.int .i64 rp.e) ∧ Duo w' B6 ∧ Duo w' B7 ∧ w'.heap[w3.heap.size]? = some (.cells #[.pointer (some ⟨b2, 0, none⟩), .int .i64 p.e, .pointer (some ⟨b3, 0, none⟩), .int .i64 q.e] 120 (0, 0))) ((w'.setCell ⟨B6, 0, none⟩ (.pointer y)).setCell ⟨B6, 1, none⟩ (.int .i64 e))) := fun w' y e ⟨h1, h2, h3, h4, h5, h6, h7⟩ => by
            refine ⟨?_, ?_, ?_, ?_, (h5.set y e).1, (h6.out (fun h => hB67 h.symm)).out (fun h => hB67 h.symm), ?_⟩
            · rw [cell_set_out (by simp only; omega), cell_set_out (by simp only; omega)]; exact h1
            · rw [cell_set_out (by simp only; omega), cell_set_out (by simp only; omega)]; exact h2
            · rw [cell_set_out (by simp only; omega), cell_set_out (by simp only; omega)]; exact h3
            · rw [cell_set_out (by simp only; omega), cell_set_out (by simp only; omega)]; exact h4
            · rw [heap_set_out (by omega), heap_set_out (by omega)]; exact h7
          have K7 : Hid (∀ (w' : World) (y : Option Addr) (e : Int), (w'.cell? ⟨w5.heap.size, 0, none⟩ = some (.pointer (some ⟨ra, 0, none⟩)) ∧ w'.cell? ⟨w5.heap.size, 1, none⟩ = some (.int .i64 rp.e) ∧ w'.cell? ⟨w5.heap.size + 1, 0, none⟩ = some (.pointer (some ⟨rb, 0, none⟩)) ∧ w'.cell? ⟨w5.heap.size + 1, 1, none⟩ = some (.int .i64 rp.e) ∧ Duo w' B6 ∧ Duo w' B7 ∧ w'.heap[w3.heap.size]? = some (.cells #[.pointer (some ⟨b2, 0, none⟩), .int .i64 p.e, .pointer (some ⟨b3, 0, none⟩), .int .i64 q.e] 120 (0, 0))) → (fun w' : World => w'.cell? ⟨w5.heap.size, 0, none⟩ = some (.pointer (some ⟨ra, 0, none⟩)) ∧ w'.cell? ⟨w5.heap.size, 1, none⟩ = some (.int .i64 rp.e) ∧ w'.cell? ⟨w5.heap.size + 1, 0, none⟩ = some (.pointer (some ⟨rb, 0, none⟩)) ∧ w'.cell? ⟨w5.heap.size + 1, 1, none⟩ = some (.int .i64 rp.e) ∧ Duo w' B6 ∧ Duo w' B7 ∧ w'.heap[w3.heap.size]? = some (.cells #[.pointer (some ⟨b2, 0, none⟩), .int .i64 p.e, .pointer (some ⟨b3, 0, none⟩), .int .i64 q.e] 120 (0, 0))) ((w'.setCell ⟨B7, 0, none⟩ (.pointer y)).setCell ⟨B7, 1, none⟩ (.int .i64 e))) := fun w' y e ⟨h1, h2, h3, h4, h5, h6, h7⟩ => by
            refine ⟨?_, ?_, ?_, ?_, (h5.out hB67).out hB67, (h6.set y e).1, ?_⟩
            · rw [cell_set_out (by simp only; omega), cell_set_out (by simp only; omega)]; exact h1
            · rw [cell_set_out (by simp only; omega), cell_set_out (by simp only; omega)]; exact h2
            · rw [cell_set_out (by simp only; omega), cell_set_out (by simp only; omega)]; exact h3
            · rw [cell_set_out (by simp only; omega), cell_set_out (by simp only; omega)]; exact h4
            · rw [heap_set_out (by omega), heap_set_out (by omega)]; exact h7
          have hpl := HS.out.1.plus
          have HPL := Lib.hid hpl
          clear hw6 hg56 r10 r11 hgr6 hr6 hr7 hrA h66 h76 u0 u1 v0 v1 hra hrb hb5 hg5 hD6 hD7 hpl HR s0 s1 s2 s3
          refine wp_region_held_drew (S := fun w' : World => w'.cell? ⟨w5.heap.size, 0, none⟩ = some (.pointer (some ⟨ra, 0, none⟩)) ∧ w'.cell? ⟨w5.heap.size, 1, none⟩ = some (.int .i64 rp.e) ∧ w'.cell? ⟨w5.heap.size + 1, 0, none⟩ = some (.pointer (some ⟨rb, 0, none⟩)) ∧ w'.cell? ⟨w5.heap.size + 1, 1, none⟩ = some (.int .i64 rp.e) ∧ Duo w' B6 ∧ Duo w' B7 ∧ w'.heap[w3.heap.size]? = some (.cells #[.pointer (some ⟨b2, 0, none⟩), .int .i64 p.e, .pointer (some ⟨b3, 0, none⟩), .int .i64 q.e] 120 (0, 0))) (by kernel_rfl) ?_ (fun hHeld => ?_)
          · first
              | with_reducible exact KS.out _ (grown_drews _ _)
              | with_reducible exact KS.out _ (drew_grown _)
              | with_reducible exact KS.out _ hGl
              | with_reducible exact KS.out _ hGh
              | with_reducible exact KS.out _ (grown_trans hGl (drew_grown _))
              | with_reducible exact KS.out _ (grown_trans hGh (drew_grown _))
              | with_reducible exact K6.out _ _ _ (KS.out _ hGl)
              | with_reducible exact K6.out _ _ _ (KS.out _ hGh)
              | with_reducible exact K7.out _ _ _ (KS.out _ hGl)
              | with_reducible exact K7.out _ _ _ (KS.out _ hGh)
              | with_reducible exact K7.out _ _ _ (K6.out _ _ _ (KS.out _ hGl))
              | with_reducible exact K7.out _ _ _ (K6.out _ _ _ (KS.out _ hGh))
              | with_reducible exact K6.out _ _ _ (K7.out _ _ _ (KS.out _ hGl))
              | with_reducible exact K6.out _ _ _ (K7.out _ _ _ (KS.out _ hGh))
          refine wpAnyH_take (i := 1) (v := .agg #[.pointer (some ⟨ra, 0, none⟩), .int .i64 rp.e]) rfl (by kernel_rfl) (by kernel_rfl) (by kernel_rfl) (fun _ _ _ h => h) (Or.inl ⟨by rfl, ?_⟩) (by assumption) ?_
          · intro w hSw
            (try dsimp only at hSw)
            go_simp
          simp only [Act.put, List.setIfInBounds_toArray, List.set_cons_zero, List.set_cons_succ]
          refine wpAnyH_take (i := 4) (v := .agg #[.pointer (some ⟨rb, 0, none⟩), .int .i64 rp.e]) rfl (by kernel_rfl) (by kernel_rfl) (by kernel_rfl) (fun _ _ _ h => h) (Or.inl ⟨by rfl, ?_⟩) (by assumption) ?_
          · intro w hSw
            (try dsimp only at hSw)
            go_simp
          simp only [Act.put, List.setIfInBounds_toArray, List.set_cons_zero, List.set_cons_succ]
          refine wpAnyH_ready (rs := [0, 3]) (by kernel_rfl) (by simp) ?_
          refine AllReadyH.cons rfl (fun K hK => ?_) (AllReadyH.cons rfl (fun K hK => ?_) AllReadyH.nil)
          · (try simp only [List.getElem_toArray, List.getElem_cons_zero, List.getElem_cons_succ])
            go_simp
            refine hK.out _ _ ?_ (fun hHeld => ?_)
            · try dsimp only
              first
                | with_reducible exact KS.out _ (grown_drews _ _)
                | with_reducible exact KS.out _ (drew_grown _)
                | with_reducible exact KS.out _ hGl
                | with_reducible exact KS.out _ hGh
                | with_reducible exact KS.out _ (grown_trans hGl (drew_grown _))
                | with_reducible exact KS.out _ (grown_trans hGh (drew_grown _))
                | with_reducible exact K6.out _ _ _ (KS.out _ hGl)
                | with_reducible exact K6.out _ _ _ (KS.out _ hGh)
                | with_reducible exact K7.out _ _ _ (KS.out _ hGl)
                | with_reducible exact K7.out _ _ _ (KS.out _ hGh)
                | with_reducible exact K7.out _ _ _ (K6.out _ _ _ (KS.out _ hGl))
                | with_reducible exact K7.out _ _ _ (K6.out _ _ _ (KS.out _ hGh))
                | with_reducible exact K6.out _ _ _ (K7.out _ _ _ (KS.out _ hGl))
                | with_reducible exact K6.out _ _ _ (K7.out _ _ _ (KS.out _ hGh))
            clear hK K
            (try simp only [Act.put, List.setIfInBounds_toArray, List.set_cons_zero, List.set_cons_succ])
            clear hHeld
            refine wpAnyH_ready (rs := [2, 3]) (by kernel_rfl) (by simp) ?_
            refine AllReadyH.cons rfl (fun K hK => ?_) (AllReadyH.cons rfl (fun K hK => ?_) AllReadyH.nil)
            · (try simp only [List.getElem_toArray, List.getElem_cons_zero, List.getElem_cons_succ])
              go_simp
              (go_at_call_of 128 (Value.agg #[.pointer (some ⟨bl, 0, none⟩), .int .i64 c.e]); refine (explus_calls _ _ c rp _ ⟨bl, rfl, HLl6.out.grown0 (by first | with_reducible exact hGh | with_reducible exact grown_trans hGh (drew_grown _) | with_reducible exact grown_trans hGh (grown_drews _ _) | with_reducible exact drew_grown _ | with_reducible exact grown_drews _ _)⟩ HS.out.1.sm1 ⟨ra, rfl, HA6.out.grown0 (by first | with_reducible exact hGh | with_reducible exact grown_trans hGh (drew_grown _) | with_reducible exact grown_trans hGh (grown_drews _ _) | with_reducible exact drew_grown _ | with_reducible exact grown_drews _ _)⟩ HS.out.1.sm2).mono ?_; intro e1 wl hh; rw [HPL.out] at hh; obtain ⟨nl, rfl, hIl, hgl⟩ := hh.grow; have hGl : w6.grownBy wl none := (by first | with_reducible exact grown_trans hGh hgl | with_reducible exact grown_trans hGh (grown_trans (drew_grown _) hgl) | with_reducible exact grown_trans hGh (grown_trans (grown_drews _ _) hgl) | with_reducible exact grown_trans (drew_grown _) hgl | with_reducible exact grown_trans (grown_drews _ _) hgl); obtain ⟨y0, y1, z0, z1, fy0, fy1, fz0, fz1⟩ := KF.out _ hGl; have HIl := Lib.hid hIl; (try (have HIh2 := Lib.hid (HIh.out.grown0 (by first | with_reducible exact hgl | with_reducible exact grown_trans (drew_grown _) hgl | with_reducible exact grown_trans (grown_drews _ _) hgl)))); clear hh hIl)
              (try go_wp2_with fail)
              refine hK.out _ _ ?_ (fun hHeld => ?_)
              · try dsimp only
                first
                  | with_reducible exact KS.out _ (grown_drews _ _)
                  | with_reducible exact KS.out _ (drew_grown _)
                  | with_reducible exact KS.out _ hGl
                  | with_reducible exact KS.out _ hGh
                  | with_reducible exact KS.out _ (grown_trans hGl (drew_grown _))
                  | with_reducible exact KS.out _ (grown_trans hGh (drew_grown _))
                  | with_reducible exact K6.out _ _ _ (KS.out _ hGl)
                  | with_reducible exact K6.out _ _ _ (KS.out _ hGh)
                  | with_reducible exact K7.out _ _ _ (KS.out _ hGl)
                  | with_reducible exact K7.out _ _ _ (KS.out _ hGh)
                  | with_reducible exact K7.out _ _ _ (K6.out _ _ _ (KS.out _ hGl))
                  | with_reducible exact K7.out _ _ _ (K6.out _ _ _ (KS.out _ hGh))
                  | with_reducible exact K6.out _ _ _ (K7.out _ _ _ (KS.out _ hGl))
                  | with_reducible exact K6.out _ _ _ (K7.out _ _ _ (KS.out _ hGh))
              clear hK K
              (try simp only [Act.put, List.setIfInBounds_toArray, List.set_cons_zero, List.set_cons_succ])
              clear hHeld
              refine wpAnyH_ready (rs := [3]) (by kernel_rfl) (by simp) ?_
              refine AllReadyH.cons rfl (fun K hK => ?_) AllReadyH.nil
              (try simp only [List.getElem_toArray, List.getElem_cons_zero, List.getElem_cons_succ])
              go_simp
              refine hK.out _ _ ?_ (fun hHeld => ?_)
              · try dsimp only
                first
                  | with_reducible exact KS.out _ (grown_drews _ _)
                  | with_reducible exact KS.out _ (drew_grown _)
                  | with_reducible exact KS.out _ hGl
                  | with_reducible exact KS.out _ hGh
                  | with_reducible exact KS.out _ (grown_trans hGl (drew_grown _))
                  | with_reducible exact KS.out _ (grown_trans hGh (drew_grown _))
                  | with_reducible exact K6.out _ _ _ (KS.out _ hGl)
                  | with_reducible exact K6.out _ _ _ (KS.out _ hGh)
                  | with_reducible exact K7.out _ _ _ (KS.out _ hGl)
                  | with_reducible exact K7.out _ _ _ (KS.out _ hGh)
                  | with_reducible exact K7.out _ _ _ (K6.out _ _ _ (KS.out _ hGl))
                  | with_reducible exact K7.out _ _ _ (K6.out _ _ _ (KS.out _ hGh))
                  | with_reducible exact K6.out _ _ _ (K7.out _ _ _ (KS.out _ hGl))
                  | with_reducible exact K6.out _ _ _ (K7.out _ _ _ (KS.out _ hGh))
              clear hK K
              (try simp only [Act.put, List.setIfInBounds_toArray, List.set_cons_zero, List.set_cons_succ])
              clear hHeld
              refine wpAnyH_ready (rs := [5]) (by kernel_rfl) (by simp) ?_
              refine AllReadyH.cons rfl (fun K hK => ?_) AllReadyH.nil
              (try simp only [List.getElem_toArray, List.getElem_cons_zero, List.getElem_cons_succ])
              go_simp
              (go_at_call_of 128 (Value.agg #[.pointer (some ⟨bh, 0, none⟩), .int .i64 c.e]); refine (explus_calls _ _ c rp _ ⟨bh, rfl, HLh6.out.grown0 (by first | with_reducible exact hGl | with_reducible exact grown_trans hGl (drew_grown _) | with_reducible exact grown_trans hGl (grown_drews _ _) | with_reducible exact drew_grown _ | with_reducible exact grown_drews _ _)⟩ HS.out.1.sm1 ⟨rb, rfl, HB6'.out.grown0 (by first | with_reducible exact hGl | with_reducible exact grown_trans hGl (drew_grown _) | with_reducible exact grown_trans hGl (grown_drews _ _) | with_reducible exact drew_grown _ | with_reducible exact grown_drews _ _)⟩ HS.out.1.sm2).mono ?_; intro e1 wh hh; rw [HPL.out] at hh; obtain ⟨nh, rfl, hIh, hgh⟩ := hh.grow; have hGh : w6.grownBy wh none := (by first | with_reducible exact grown_trans hGl hgh | with_reducible exact grown_trans hGl (grown_trans (drew_grown _) hgh) | with_reducible exact grown_trans hGl (grown_trans (grown_drews _ _) hgh) | with_reducible exact grown_trans (drew_grown _) hgh | with_reducible exact grown_trans (grown_drews _ _) hgh); obtain ⟨y0, y1, z0, z1, fy0, fy1, fz0, fz1⟩ := KF.out _ hGh; have HIh := Lib.hid hIh; (try (have HIl2 := Lib.hid (HIl.out.grown0 (by first | with_reducible exact hgh | with_reducible exact grown_trans (drew_grown _) hgh | with_reducible exact grown_trans (grown_drews _ _) hgh)))); clear hh hIh)
              (try go_wp2_with fail)
              refine hK.out _ _ ?_ (fun hHeld => ?_)
              · try dsimp only
                first
                  | with_reducible exact KS.out _ (grown_drews _ _)
                  | with_reducible exact KS.out _ (drew_grown _)
                  | with_reducible exact KS.out _ hGl
                  | with_reducible exact KS.out _ hGh
                  | with_reducible exact KS.out _ (grown_trans hGl (drew_grown _))
                  | with_reducible exact KS.out _ (grown_trans hGh (drew_grown _))
                  | with_reducible exact K6.out _ _ _ (KS.out _ hGl)
                  | with_reducible exact K6.out _ _ _ (KS.out _ hGh)
                  | with_reducible exact K7.out _ _ _ (KS.out _ hGl)
                  | with_reducible exact K7.out _ _ _ (KS.out _ hGh)
                  | with_reducible exact K7.out _ _ _ (K6.out _ _ _ (KS.out _ hGl))
                  | with_reducible exact K7.out _ _ _ (K6.out _ _ _ (KS.out _ hGh))
                  | with_reducible exact K6.out _ _ _ (K7.out _ _ _ (KS.out _ hGl))
                  | with_reducible exact K6.out _ _ _ (K7.out _ _ _ (KS.out _ hGh))
              clear hK K
              (try simp only [Act.put, List.setIfInBounds_toArray, List.set_cons_zero, List.set_cons_succ])
              clear hHeld
              refine wpAnyH_ready (rs := [6]) (by kernel_rfl) (by simp) ?_
              refine AllReadyH.cons rfl (fun K hK => ?_) AllReadyH.nil
              (try simp only [List.getElem_toArray, List.getElem_cons_zero, List.getElem_cons_succ])
              go_simp
              refine hK.out _ _ ?_ (fun hHeld => ?_)
              · try dsimp only
                first
                  | with_reducible exact KS.out _ (grown_drews _ _)
                  | with_reducible exact KS.out _ (drew_grown _)
                  | with_reducible exact KS.out _ hGl
                  | with_reducible exact KS.out _ hGh
                  | with_reducible exact KS.out _ (grown_trans hGl (drew_grown _))
                  | with_reducible exact KS.out _ (grown_trans hGh (drew_grown _))
                  | with_reducible exact K6.out _ _ _ (KS.out _ hGl)
                  | with_reducible exact K6.out _ _ _ (KS.out _ hGh)
                  | with_reducible exact K7.out _ _ _ (KS.out _ hGl)
                  | with_reducible exact K7.out _ _ _ (KS.out _ hGh)
                  | with_reducible exact K7.out _ _ _ (K6.out _ _ _ (KS.out _ hGl))
                  | with_reducible exact K7.out _ _ _ (K6.out _ _ _ (KS.out _ hGh))
                  | with_reducible exact K6.out _ _ _ (K7.out _ _ _ (KS.out _ hGl))
                  | with_reducible exact K6.out _ _ _ (K7.out _ _ _ (KS.out _ hGh))
              clear hK K
              (try simp only [Act.put, List.setIfInBounds_toArray, List.set_cons_zero, List.set_cons_succ])
              clear hHeld
              refine wpAnyH_ready (rs := [7]) (by kernel_rfl) (by simp) ?_
              refine AllReadyH.cons rfl (fun K hK => ?_) AllReadyH.nil
              (try simp only [List.getElem_toArray, List.getElem_cons_zero, List.getElem_cons_succ])
              go_simp
              refine hK.out _ _ ?_ (fun hHeld => ?_)
              · try dsimp only
                first
                  | with_reducible exact KS.out _ (grown_drews _ _)
                  | with_reducible exact KS.out _ (drew_grown _)
                  | with_reducible exact KS.out _ hGl
                  | with_reducible exact KS.out _ hGh
                  | with_reducible exact KS.out _ (grown_trans hGl (drew_grown _))
                  | with_reducible exact KS.out _ (grown_trans hGh (drew_grown _))
                  | with_reducible exact K6.out _ _ _ (KS.out _ hGl)
                  | with_reducible exact K6.out _ _ _ (KS.out _ hGh)
                  | with_reducible exact K7.out _ _ _ (KS.out _ hGl)
                  | with_reducible exact K7.out _ _ _ (KS.out _ hGh)
                  | with_reducible exact K7.out _ _ _ (K6.out _ _ _ (KS.out _ hGl))
                  | with_reducible exact K7.out _ _ _ (K6.out _ _ _ (KS.out _ hGh))
                  | with_reducible exact K6.out _ _ _ (K7.out _ _ _ (KS.out _ hGl))
                  | with_reducible exact K6.out _ _ _ (K7.out _ _ _ (KS.out _ hGh))
              clear hK K
              (try simp only [Act.put, List.setIfInBounds_toArray, List.set_cons_zero, List.set_cons_succ])
              clear hHeld
              refine wpAnyH_done (by kernel_rfl) ?_ _
              first
                | (have HN := Lib.hid (near_put (w2 := w2) (KS.out _ hGh).2.2.2.2.1 (KS.out _ hGh).2.2.2.2.2.1 hB67 hB6 hB7 (by omega) (by omega) HIl2.out HIh.out (grown_trans HG.out (grown_trans HGr6.out hGh)) (KS.out _ hGh).2.2.2.2.2.2))
                | (have HN := Lib.hid (near_put (w2 := w2) (KS.out _ hGl).2.2.2.2.1 (KS.out _ hGl).2.2.2.2.2.1 hB67 hB6 hB7 (by omega) (by omega) HIl.out HIh2.out (grown_trans HG.out (grown_trans HGr6.out hGl)) (KS.out _ hGl).2.2.2.2.2.2))
              go_wp2
              refine ⟨⟨0+1, by omega, rfl, nl, nh, ?_, ?_, ?_⟩, by simp [intOf]⟩
              · exact HN.out.1
              · exact HN.out.2.1
              · exact HN.out.2.2
            · (try simp only [List.getElem_toArray, List.getElem_cons_zero, List.getElem_cons_succ])
              go_simp
              refine hK.out _ _ ?_ (fun hHeld => ?_)
              · try dsimp only
                first
                  | with_reducible exact KS.out _ (grown_drews _ _)
                  | with_reducible exact KS.out _ (drew_grown _)
                  | with_reducible exact KS.out _ hGl
                  | with_reducible exact KS.out _ hGh
                  | with_reducible exact KS.out _ (grown_trans hGl (drew_grown _))
                  | with_reducible exact KS.out _ (grown_trans hGh (drew_grown _))
                  | with_reducible exact K6.out _ _ _ (KS.out _ hGl)
                  | with_reducible exact K6.out _ _ _ (KS.out _ hGh)
                  | with_reducible exact K7.out _ _ _ (KS.out _ hGl)
                  | with_reducible exact K7.out _ _ _ (KS.out _ hGh)
                  | with_reducible exact K7.out _ _ _ (K6.out _ _ _ (KS.out _ hGl))
                  | with_reducible exact K7.out _ _ _ (K6.out _ _ _ (KS.out _ hGh))
                  | with_reducible exact K6.out _ _ _ (K7.out _ _ _ (KS.out _ hGl))
                  | with_reducible exact K6.out _ _ _ (K7.out _ _ _ (KS.out _ hGh))
              clear hK K
              (try simp only [Act.put, List.setIfInBounds_toArray, List.set_cons_zero, List.set_cons_succ])
              clear hHeld
              refine wpAnyH_ready (rs := [2]) (by kernel_rfl) (by simp) ?_
              refine AllReadyH.cons rfl (fun K hK => ?_) AllReadyH.nil
              (try simp only [List.getElem_toArray, List.getElem_cons_zero, List.getElem_cons_succ])
              go_simp
              (go_at_call_of 128 (Value.agg #[.pointer (some ⟨bl, 0, none⟩), .int .i64 c.e]); refine (explus_calls _ _ c rp _ ⟨bl, rfl, HLl6.out.grown0 (by first | with_reducible exact hGh | with_reducible exact grown_trans hGh (drew_grown _) | with_reducible exact grown_trans hGh (grown_drews _ _) | with_reducible exact drew_grown _ | with_reducible exact grown_drews _ _)⟩ HS.out.1.sm1 ⟨ra, rfl, HA6.out.grown0 (by first | with_reducible exact hGh | with_reducible exact grown_trans hGh (drew_grown _) | with_reducible exact grown_trans hGh (grown_drews _ _) | with_reducible exact drew_grown _ | with_reducible exact grown_drews _ _)⟩ HS.out.1.sm2).mono ?_; intro e1 wl hh; rw [HPL.out] at hh; obtain ⟨nl, rfl, hIl, hgl⟩ := hh.grow; have hGl : w6.grownBy wl none := (by first | with_reducible exact grown_trans hGh hgl | with_reducible exact grown_trans hGh (grown_trans (drew_grown _) hgl) | with_reducible exact grown_trans hGh (grown_trans (grown_drews _ _) hgl) | with_reducible exact grown_trans (drew_grown _) hgl | with_reducible exact grown_trans (grown_drews _ _) hgl); obtain ⟨y0, y1, z0, z1, fy0, fy1, fz0, fz1⟩ := KF.out _ hGl; have HIl := Lib.hid hIl; (try (have HIh2 := Lib.hid (HIh.out.grown0 (by first | with_reducible exact hgl | with_reducible exact grown_trans (drew_grown _) hgl | with_reducible exact grown_trans (grown_drews _ _) hgl)))); clear hh hIl)
              (try go_wp2_with fail)
              refine hK.out _ _ ?_ (fun hHeld => ?_)
              · try dsimp only
                first
                  | with_reducible exact KS.out _ (grown_drews _ _)
                  | with_reducible exact KS.out _ (drew_grown _)
                  | with_reducible exact KS.out _ hGl
                  | with_reducible exact KS.out _ hGh
                  | with_reducible exact KS.out _ (grown_trans hGl (drew_grown _))
                  | with_reducible exact KS.out _ (grown_trans hGh (drew_grown _))
                  | with_reducible exact K6.out _ _ _ (KS.out _ hGl)
                  | with_reducible exact K6.out _ _ _ (KS.out _ hGh)
                  | with_reducible exact K7.out _ _ _ (KS.out _ hGl)
                  | with_reducible exact K7.out _ _ _ (KS.out _ hGh)
                  | with_reducible exact K7.out _ _ _ (K6.out _ _ _ (KS.out _ hGl))
                  | with_reducible exact K7.out _ _ _ (K6.out _ _ _ (KS.out _ hGh))
                  | with_reducible exact K6.out _ _ _ (K7.out _ _ _ (KS.out _ hGl))
                  | with_reducible exact K6.out _ _ _ (K7.out _ _ _ (KS.out _ hGh))
              clear hK K
              (try simp only [Act.put, List.setIfInBounds_toArray, List.set_cons_zero, List.set_cons_succ])
              clear hHeld
              refine wpAnyH_ready (rs := [5]) (by kernel_rfl) (by simp) ?_
              refine AllReadyH.cons rfl (fun K hK => ?_) AllReadyH.nil
              (try simp only [List.getElem_toArray, List.getElem_cons_zero, List.getElem_cons_succ])
              go_simp
              (go_at_call_of 128 (Value.agg #[.pointer (some ⟨bh, 0, none⟩), .int .i64 c.e]); refine (explus_calls _ _ c rp _ ⟨bh, rfl, HLh6.out.grown0 (by first | with_reducible exact hGl | with_reducible exact grown_trans hGl (drew_grown _) | with_reducible exact grown_trans hGl (grown_drews _ _) | with_reducible exact drew_grown _ | with_reducible exact grown_drews _ _)⟩ HS.out.1.sm1 ⟨rb, rfl, HB6'.out.grown0 (by first | with_reducible exact hGl | with_reducible exact grown_trans hGl (drew_grown _) | with_reducible exact grown_trans hGl (grown_drews _ _) | with_reducible exact drew_grown _ | with_reducible exact grown_drews _ _)⟩ HS.out.1.sm2).mono ?_; intro e1 wh hh; rw [HPL.out] at hh; obtain ⟨nh, rfl, hIh, hgh⟩ := hh.grow; have hGh : w6.grownBy wh none := (by first | with_reducible exact grown_trans hGl hgh | with_reducible exact grown_trans hGl (grown_trans (drew_grown _) hgh) | with_reducible exact grown_trans hGl (grown_trans (grown_drews _ _) hgh) | with_reducible exact grown_trans (drew_grown _) hgh | with_reducible exact grown_trans (grown_drews _ _) hgh); obtain ⟨y0, y1, z0, z1, fy0, fy1, fz0, fz1⟩ := KF.out _ hGh; have HIh := Lib.hid hIh; (try (have HIl2 := Lib.hid (HIl.out.grown0 (by first | with_reducible exact hgh | with_reducible exact grown_trans (drew_grown _) hgh | with_reducible exact grown_trans (grown_drews _ _) hgh)))); clear hh hIh)
              (try go_wp2_with fail)
              refine hK.out _ _ ?_ (fun hHeld => ?_)
              · try dsimp only
                first
                  | with_reducible exact KS.out _ (grown_drews _ _)
                  | with_reducible exact KS.out _ (drew_grown _)
                  | with_reducible exact KS.out _ hGl
                  | with_reducible exact KS.out _ hGh
                  | with_reducible exact KS.out _ (grown_trans hGl (drew_grown _))
                  | with_reducible exact KS.out _ (grown_trans hGh (drew_grown _))
                  | with_reducible exact K6.out _ _ _ (KS.out _ hGl)
                  | with_reducible exact K6.out _ _ _ (KS.out _ hGh)
                  | with_reducible exact K7.out _ _ _ (KS.out _ hGl)
                  | with_reducible exact K7.out _ _ _ (KS.out _ hGh)
                  | with_reducible exact K7.out _ _ _ (K6.out _ _ _ (KS.out _ hGl))
                  | with_reducible exact K7.out _ _ _ (K6.out _ _ _ (KS.out _ hGh))
                  | with_reducible exact K6.out _ _ _ (K7.out _ _ _ (KS.out _ hGl))
                  | with_reducible exact K6.out _ _ _ (K7.out _ _ _ (KS.out _ hGh))
              clear hK K
              (try simp only [Act.put, List.setIfInBounds_toArray, List.set_cons_zero, List.set_cons_succ])
              clear hHeld
              refine wpAnyH_ready (rs := [6]) (by kernel_rfl) (by simp) ?_
              refine AllReadyH.cons rfl (fun K hK => ?_) AllReadyH.nil
              (try simp only [List.getElem_toArray, List.getElem_cons_zero, List.getElem_cons_succ])
              go_simp
              refine hK.out _ _ ?_ (fun hHeld => ?_)
              · try dsimp only
                first
                  | with_reducible exact KS.out _ (grown_drews _ _)
                  | with_reducible exact KS.out _ (drew_grown _)
                  | with_reducible exact KS.out _ hGl
                  | with_reducible exact KS.out _ hGh
                  | with_reducible exact KS.out _ (grown_trans hGl (drew_grown _))
                  | with_reducible exact KS.out _ (grown_trans hGh (drew_grown _))
                  | with_reducible exact K6.out _ _ _ (KS.out _ hGl)
                  | with_reducible exact K6.out _ _ _ (KS.out _ hGh)
                  | with_reducible exact K7.out _ _ _ (KS.out _ hGl)
                  | with_reducible exact K7.out _ _ _ (KS.out _ hGh)
                  | with_reducible exact K7.out _ _ _ (K6.out _ _ _ (KS.out _ hGl))
                  | with_reducible exact K7.out _ _ _ (K6.out _ _ _ (KS.out _ hGh))
                  | with_reducible exact K6.out _ _ _ (K7.out _ _ _ (KS.out _ hGl))
                  | with_reducible exact K6.out _ _ _ (K7.out _ _ _ (KS.out _ hGh))
              clear hK K
              (try simp only [Act.put, List.setIfInBounds_toArray, List.set_cons_zero, List.set_cons_succ])
              clear hHeld
              refine wpAnyH_ready (rs := [7]) (by kernel_rfl) (by simp) ?_
              refine AllReadyH.cons rfl (fun K hK => ?_) AllReadyH.nil
              (try simp only [List.getElem_toArray, List.getElem_cons_zero, List.getElem_cons_succ])
              go_simp
              refine hK.out _ _ ?_ (fun hHeld => ?_)
              · try dsimp only
                first
                  | with_reducible exact KS.out _ (grown_drews _ _)
                  | with_reducible exact KS.out _ (drew_grown _)
                  | with_reducible exact KS.out _ hGl
                  | with_reducible exact KS.out _ hGh
                  | with_reducible exact KS.out _ (grown_trans hGl (drew_grown _))
                  | with_reducible exact KS.out _ (grown_trans hGh (drew_grown _))
                  | with_reducible exact K6.out _ _ _ (KS.out _ hGl)
                  | with_reducible exact K6.out _ _ _ (KS.out _ hGh)
                  | with_reducible exact K7.out _ _ _ (KS.out _ hGl)
                  | with_reducible exact K7.out _ _ _ (KS.out _ hGh)
                  | with_reducible exact K7.out _ _ _ (K6.out _ _ _ (KS.out _ hGl))
                  | with_reducible exact K7.out _ _ _ (K6.out _ _ _ (KS.out _ hGh))
                  | with_reducible exact K6.out _ _ _ (K7.out _ _ _ (KS.out _ hGl))
                  | with_reducible exact K6.out _ _ _ (K7.out _ _ _ (KS.out _ hGh))
              clear hK K
              (try simp only [Act.put, List.setIfInBounds_toArray, List.set_cons_zero, List.set_cons_succ])
              clear hHeld
              refine wpAnyH_done (by kernel_rfl) ?_ _
              first
                | (have HN := Lib.hid (near_put (w2 := w2) (KS.out _ hGh).2.2.2.2.1 (KS.out _ hGh).2.2.2.2.2.1 hB67 hB6 hB7 (by omega) (by omega) HIl2.out HIh.out (grown_trans HG.out (grown_trans HGr6.out hGh)) (KS.out _ hGh).2.2.2.2.2.2))
                | (have HN := Lib.hid (near_put (w2 := w2) (KS.out _ hGl).2.2.2.2.1 (KS.out _ hGl).2.2.2.2.2.1 hB67 hB6 hB7 (by omega) (by omega) HIl.out HIh2.out (grown_trans HG.out (grown_trans HGr6.out hGl)) (KS.out _ hGl).2.2.2.2.2.2))
              go_wp2
              refine ⟨⟨0+1, by omega, rfl, nl, nh, ?_, ?_, ?_⟩, by simp [intOf]⟩
              · exact HN.out.1
              · exact HN.out.2.1
              · exact HN.out.2.2
          · (try simp only [List.getElem_toArray, List.getElem_cons_zero, List.getElem_cons_succ])
            go_simp
            refine hK.out _ _ ?_ (fun hHeld => ?_)
            · try dsimp only
              first
                | with_reducible exact KS.out _ (grown_drews _ _)
                | with_reducible exact KS.out _ (drew_grown _)
                | with_reducible exact KS.out _ hGl
                | with_reducible exact KS.out _ hGh
                | with_reducible exact KS.out _ (grown_trans hGl (drew_grown _))
                | with_reducible exact KS.out _ (grown_trans hGh (drew_grown _))
                | with_reducible exact K6.out _ _ _ (KS.out _ hGl)
                | with_reducible exact K6.out _ _ _ (KS.out _ hGh)
                | with_reducible exact K7.out _ _ _ (KS.out _ hGl)
                | with_reducible exact K7.out _ _ _ (KS.out _ hGh)
                | with_reducible exact K7.out _ _ _ (K6.out _ _ _ (KS.out _ hGl))
                | with_reducible exact K7.out _ _ _ (K6.out _ _ _ (KS.out _ hGh))
                | with_reducible exact K6.out _ _ _ (K7.out _ _ _ (KS.out _ hGl))
                | with_reducible exact K6.out _ _ _ (K7.out _ _ _ (KS.out _ hGh))
            clear hK K
            (try simp only [Act.put, List.setIfInBounds_toArray, List.set_cons_zero, List.set_cons_succ])
            clear hHeld
            refine wpAnyH_ready (rs := [0]) (by kernel_rfl) (by simp) ?_
            refine AllReadyH.cons rfl (fun K hK => ?_) AllReadyH.nil
            (try simp only [List.getElem_toArray, List.getElem_cons_zero, List.getElem_cons_succ])
            go_simp
            refine hK.out _ _ ?_ (fun hHeld => ?_)
            · try dsimp only
              first
                | with_reducible exact KS.out _ (grown_drews _ _)
                | with_reducible exact KS.out _ (drew_grown _)
                | with_reducible exact KS.out _ hGl
                | with_reducible exact KS.out _ hGh
                | with_reducible exact KS.out _ (grown_trans hGl (drew_grown _))
                | with_reducible exact KS.out _ (grown_trans hGh (drew_grown _))
                | with_reducible exact K6.out _ _ _ (KS.out _ hGl)
                | with_reducible exact K6.out _ _ _ (KS.out _ hGh)
                | with_reducible exact K7.out _ _ _ (KS.out _ hGl)
                | with_reducible exact K7.out _ _ _ (KS.out _ hGh)
                | with_reducible exact K7.out _ _ _ (K6.out _ _ _ (KS.out _ hGl))
                | with_reducible exact K7.out _ _ _ (K6.out _ _ _ (KS.out _ hGh))
                | with_reducible exact K6.out _ _ _ (K7.out _ _ _ (KS.out _ hGl))
                | with_reducible exact K6.out _ _ _ (K7.out _ _ _ (KS.out _ hGh))
            clear hK K
            (try simp only [Act.put, List.setIfInBounds_toArray, List.set_cons_zero, List.set_cons_succ])
            clear hHeld
            refine wpAnyH_ready (rs := [2]) (by kernel_rfl) (by simp) ?_
            refine AllReadyH.cons rfl (fun K hK => ?_) AllReadyH.nil
            (try simp only [List.getElem_toArray, List.getElem_cons_zero, List.getElem_cons_succ])
            go_simp
            (go_at_call_of 128 (Value.agg #[.pointer (some ⟨bl, 0, none⟩), .int .i64 c.e]); refine (explus_calls _ _ c rp _ ⟨bl, rfl, HLl6.out.grown0 (by first | with_reducible exact hGh | with_reducible exact grown_trans hGh (drew_grown _) | with_reducible exact grown_trans hGh (grown_drews _ _) | with_reducible exact drew_grown _ | with_reducible exact grown_drews _ _)⟩ HS.out.1.sm1 ⟨ra, rfl, HA6.out.grown0 (by first | with_reducible exact hGh | with_reducible exact grown_trans hGh (drew_grown _) | with_reducible exact grown_trans hGh (grown_drews _ _) | with_reducible exact drew_grown _ | with_reducible exact grown_drews _ _)⟩ HS.out.1.sm2).mono ?_; intro e1 wl hh; rw [HPL.out] at hh; obtain ⟨nl, rfl, hIl, hgl⟩ := hh.grow; have hGl : w6.grownBy wl none := (by first | with_reducible exact grown_trans hGh hgl | with_reducible exact grown_trans hGh (grown_trans (drew_grown _) hgl) | with_reducible exact grown_trans hGh (grown_trans (grown_drews _ _) hgl) | with_reducible exact grown_trans (drew_grown _) hgl | with_reducible exact grown_trans (grown_drews _ _) hgl); obtain ⟨y0, y1, z0, z1, fy0, fy1, fz0, fz1⟩ := KF.out _ hGl; have HIl := Lib.hid hIl; (try (have HIh2 := Lib.hid (HIh.out.grown0 (by first | with_reducible exact hgl | with_reducible exact grown_trans (drew_grown _) hgl | with_reducible exact grown_trans (grown_drews _ _) hgl)))); clear hh hIl)
            (try go_wp2_with fail)
            refine hK.out _ _ ?_ (fun hHeld => ?_)
            · try dsimp only
              first
                | with_reducible exact KS.out _ (grown_drews _ _)
                | with_reducible exact KS.out _ (drew_grown _)
                | with_reducible exact KS.out _ hGl
                | with_reducible exact KS.out _ hGh
                | with_reducible exact KS.out _ (grown_trans hGl (drew_grown _))
                | with_reducible exact KS.out _ (grown_trans hGh (drew_grown _))
                | with_reducible exact K6.out _ _ _ (KS.out _ hGl)
                | with_reducible exact K6.out _ _ _ (KS.out _ hGh)
                | with_reducible exact K7.out _ _ _ (KS.out _ hGl)
                | with_reducible exact K7.out _ _ _ (KS.out _ hGh)
                | with_reducible exact K7.out _ _ _ (K6.out _ _ _ (KS.out _ hGl))
                | with_reducible exact K7.out _ _ _ (K6.out _ _ _ (KS.out _ hGh))
                | with_reducible exact K6.out _ _ _ (K7.out _ _ _ (KS.out _ hGl))
                | with_reducible exact K6.out _ _ _ (K7.out _ _ _ (KS.out _ hGh))
            clear hK K
            (try simp only [Act.put, List.setIfInBounds_toArray, List.set_cons_zero, List.set_cons_succ])
            clear hHeld
            refine wpAnyH_ready (rs := [5]) (by kernel_rfl) (by simp) ?_
            refine AllReadyH.cons rfl (fun K hK => ?_) AllReadyH.nil
            (try simp only [List.getElem_toArray, List.getElem_cons_zero, List.getElem_cons_succ])
            go_simp
            (go_at_call_of 128 (Value.agg #[.pointer (some ⟨bh, 0, none⟩), .int .i64 c.e]); refine (explus_calls _ _ c rp _ ⟨bh, rfl, HLh6.out.grown0 (by first | with_reducible exact hGl | with_reducible exact grown_trans hGl (drew_grown _) | with_reducible exact grown_trans hGl (grown_drews _ _) | with_reducible exact drew_grown _ | with_reducible exact grown_drews _ _)⟩ HS.out.1.sm1 ⟨rb, rfl, HB6'.out.grown0 (by first | with_reducible exact hGl | with_reducible exact grown_trans hGl (drew_grown _) | with_reducible exact grown_trans hGl (grown_drews _ _) | with_reducible exact drew_grown _ | with_reducible exact grown_drews _ _)⟩ HS.out.1.sm2).mono ?_; intro e1 wh hh; rw [HPL.out] at hh; obtain ⟨nh, rfl, hIh, hgh⟩ := hh.grow; have hGh : w6.grownBy wh none := (by first | with_reducible exact grown_trans hGl hgh | with_reducible exact grown_trans hGl (grown_trans (drew_grown _) hgh) | with_reducible exact grown_trans hGl (grown_trans (grown_drews _ _) hgh) | with_reducible exact grown_trans (drew_grown _) hgh | with_reducible exact grown_trans (grown_drews _ _) hgh); obtain ⟨y0, y1, z0, z1, fy0, fy1, fz0, fz1⟩ := KF.out _ hGh; have HIh := Lib.hid hIh; (try (have HIl2 := Lib.hid (HIl.out.grown0 (by first | with_reducible exact hgh | with_reducible exact grown_trans (drew_grown _) hgh | with_reducible exact grown_trans (grown_drews _ _) hgh)))); clear hh hIh)
            (try go_wp2_with fail)
            refine hK.out _ _ ?_ (fun hHeld => ?_)
            · try dsimp only
              first
                | with_reducible exact KS.out _ (grown_drews _ _)
                | with_reducible exact KS.out _ (drew_grown _)
                | with_reducible exact KS.out _ hGl
                | with_reducible exact KS.out _ hGh
                | with_reducible exact KS.out _ (grown_trans hGl (drew_grown _))
                | with_reducible exact KS.out _ (grown_trans hGh (drew_grown _))
                | with_reducible exact K6.out _ _ _ (KS.out _ hGl)
                | with_reducible exact K6.out _ _ _ (KS.out _ hGh)
                | with_reducible exact K7.out _ _ _ (KS.out _ hGl)
                | with_reducible exact K7.out _ _ _ (KS.out _ hGh)
                | with_reducible exact K7.out _ _ _ (K6.out _ _ _ (KS.out _ hGl))
                | with_reducible exact K7.out _ _ _ (K6.out _ _ _ (KS.out _ hGh))
                | with_reducible exact K6.out _ _ _ (K7.out _ _ _ (KS.out _ hGl))
                | with_reducible exact K6.out _ _ _ (K7.out _ _ _ (KS.out _ hGh))
            clear hK K
            (try simp only [Act.put, List.setIfInBounds_toArray, List.set_cons_zero, List.set_cons_succ])
            clear hHeld
            refine wpAnyH_ready (rs := [6]) (by kernel_rfl) (by simp) ?_
            refine AllReadyH.cons rfl (fun K hK => ?_) AllReadyH.nil
            (try simp only [List.getElem_toArray, List.getElem_cons_zero, List.getElem_cons_succ])
            go_simp
            refine hK.out _ _ ?_ (fun hHeld => ?_)
            · try dsimp only
              first
                | with_reducible exact KS.out _ (grown_drews _ _)
                | with_reducible exact KS.out _ (drew_grown _)
                | with_reducible exact KS.out _ hGl
                | with_reducible exact KS.out _ hGh
                | with_reducible exact KS.out _ (grown_trans hGl (drew_grown _))
                | with_reducible exact KS.out _ (grown_trans hGh (drew_grown _))
                | with_reducible exact K6.out _ _ _ (KS.out _ hGl)
                | with_reducible exact K6.out _ _ _ (KS.out _ hGh)
                | with_reducible exact K7.out _ _ _ (KS.out _ hGl)
                | with_reducible exact K7.out _ _ _ (KS.out _ hGh)
                | with_reducible exact K7.out _ _ _ (K6.out _ _ _ (KS.out _ hGl))
                | with_reducible exact K7.out _ _ _ (K6.out _ _ _ (KS.out _ hGh))
                | with_reducible exact K6.out _ _ _ (K7.out _ _ _ (KS.out _ hGl))
                | with_reducible exact K6.out _ _ _ (K7.out _ _ _ (KS.out _ hGh))
            clear hK K
            (try simp only [Act.put, List.setIfInBounds_toArray, List.set_cons_zero, List.set_cons_succ])
            clear hHeld
            refine wpAnyH_ready (rs := [7]) (by kernel_rfl) (by simp) ?_
            refine AllReadyH.cons rfl (fun K hK => ?_) AllReadyH.nil
            (try simp only [List.getElem_toArray, List.getElem_cons_zero, List.getElem_cons_succ])
            go_simp
            refine hK.out _ _ ?_ (fun hHeld => ?_)
            · try dsimp only
              first
                | with_reducible exact KS.out _ (grown_drews _ _)
                | with_reducible exact KS.out _ (drew_grown _)
                | with_reducible exact KS.out _ hGl
                | with_reducible exact KS.out _ hGh
                | with_reducible exact KS.out _ (grown_trans hGl (drew_grown _))
                | with_reducible exact KS.out _ (grown_trans hGh (drew_grown _))
                | with_reducible exact K6.out _ _ _ (KS.out _ hGl)
                | with_reducible exact K6.out _ _ _ (KS.out _ hGh)
                | with_reducible exact K7.out _ _ _ (KS.out _ hGl)
                | with_reducible exact K7.out _ _ _ (KS.out _ hGh)
                | with_reducible exact K7.out _ _ _ (K6.out _ _ _ (KS.out _ hGl))
                | with_reducible exact K7.out _ _ _ (K6.out _ _ _ (KS.out _ hGh))
                | with_reducible exact K6.out _ _ _ (K7.out _ _ _ (KS.out _ hGl))
                | with_reducible exact K6.out _ _ _ (K7.out _ _ _ (KS.out _ hGh))
            clear hK K
            (try simp only [Act.put, List.setIfInBounds_toArray, List.set_cons_zero, List.set_cons_succ])
            clear hHeld
            refine wpAnyH_done (by kernel_rfl) ?_ _
            first
              | (have HN := Lib.hid (near_put (w2 := w2) (KS.out _ hGh).2.2.2.2.1 (KS.out _ hGh).2.2.2.2.2.1 hB67 hB6 hB7 (by omega) (by omega) HIl2.out HIh.out (grown_trans HG.out (grown_trans HGr6.out hGh)) (KS.out _ hGh).2.2.2.2.2.2))
              | (have HN := Lib.hid (near_put (w2 := w2) (KS.out _ hGl).2.2.2.2.1 (KS.out _ hGl).2.2.2.2.2.1 hB67 hB6 hB7 (by omega) (by omega) HIl.out HIh2.out (grown_trans HG.out (grown_trans HGr6.out hGl)) (KS.out _ hGl).2.2.2.2.2.2))
            go_wp2
            refine ⟨⟨0+1, by omega, rfl, nl, nh, ?_, ?_, ?_⟩, by simp [intOf]⟩
            · exact HN.out.1
            · exact HN.out.2.1
            · exact HN.out.2.2
        · simp only [show (1 : Nat) ≠ 0 by decide, if_false, if_true] at hIl hIh hr6 hr7
          obtain ⟨s0, s1, s2, s3⟩ := row4 hrA
          have hsr : w3.heap.size < wr.heap.size := (Array.getElem?_eq_some_iff.1 hrA).1
          have hs6 : B6 < wr.heap.size := (Array.getElem?_eq_some_iff.1 hr6).1
          have hs7 : B7 < wr.heap.size := (Array.getElem?_eq_some_iff.1 hr7).1
          have HX := Lib.hid (H3.out.grown0 (grown_trans HG2.out hgr))
          have HLl := Lib.hid hIl
          have HLh := Lib.hid hIh
          have HR := Lib.hid (And.intro hr6 (And.intro hr7 hrA))
          clear hIl hIh hr6 hr7 hrA hgr
          go_wp2_with fail
          refine (HS.out.2.root _ _ ⟨b3, rfl, HX.out.grown0 (grown_alloc _ _ _)⟩).mono ?_
          rintro e1 w5 ⟨v, u, rfl, ⟨ra, rfl, hra⟩, ⟨rb, rfl, hrb⟩, hb5⟩
          unfold EV
          have hg5 : wr.grownBy w5 none := grown_trans (grown_alloc _ _ _) (grown_of_below hb5 none)
          have hs5 := hg5.size
          go_upto_region 6 with fail
          obtain ⟨w6, hw6⟩ : ∃ w6, w6 = (w5.alloc (.cells #[.pointer (some ⟨ra, 0, none⟩), .int .i64 rq.e] 120)).alloc (.cells #[.pointer (some ⟨rb, 0, none⟩), .int .i64 rq.e] 120) := ⟨_, rfl⟩
          have hg56 : w5.grownBy w6 none := by rw [hw6]; exact grown_trans (grown_alloc _ _ _) (grown_alloc _ _ _)
          have r10 : w6.heap[w5.heap.size]? = some (.cells #[.pointer (some ⟨ra, 0, none⟩), .int .i64 rq.e] 120 (0, 0)) := by rw [hw6]; exact heap_old (heap_at rfl)
          have r11 : w6.heap[w5.heap.size + 1]? = some (.cells #[.pointer (some ⟨rb, 0, none⟩), .int .i64 rq.e] 120 (0, 0)) := by rw [hw6]; exact heap_at (by simp)
          rw [← hw6]
          have hgr6 := grown_trans hg5 hg56
          obtain ⟨hr6, hr7, hrA⟩ := HR.out
          have h66 := heap_grown hr6 hgr6
          have h76 := heap_grown hr7 hgr6
          obtain ⟨y0, y1⟩ := row2 h66
          obtain ⟨z0, z1⟩ := row2 h76
          obtain ⟨u0, u1⟩ := row2 r10
          obtain ⟨v0, v1⟩ := row2 r11
          have HGr6 := Lib.hid hgr6
          have HA6 := Lib.hid (hra.grown0 hg56)
          have HB6' := Lib.hid (hrb.grown0 hg56)
          have HLl6 := Lib.hid (HLl.out.grown0 hgr6)
          have HLh6 := Lib.hid (HLh.out.grown0 hgr6)
          have hD6 : Duo w6 B6 := ⟨_, _, _, h66⟩
          have hD7 : Duo w6 B7 := ⟨_, _, _, h76⟩
          obtain ⟨_, _, _, _, fy0, fy1⟩ := hD6.open
          obtain ⟨_, _, _, _, fz0, fz1⟩ := hD7.open
          have KS : Hid (∀ w' : World, w6.grownBy w' none → w'.cell? ⟨w5.heap.size, 0, none⟩ = some (.pointer (some ⟨ra, 0, none⟩)) ∧ w'.cell? ⟨w5.heap.size, 1, none⟩ = some (.int .i64 rq.e) ∧ w'.cell? ⟨w5.heap.size + 1, 0, none⟩ = some (.pointer (some ⟨rb, 0, none⟩)) ∧ w'.cell? ⟨w5.heap.size + 1, 1, none⟩ = some (.int .i64 rq.e) ∧ Duo w' B6 ∧ Duo w' B7 ∧ w'.heap[w3.heap.size]? = some (.cells #[.pointer (some ⟨b2, 0, none⟩), .int .i64 p.e, .pointer (some ⟨b3, 0, none⟩), .int .i64 q.e] 120 (0, 0))) := fun w' h =>
            ⟨cell_ext h u0, cell_ext h u1, cell_ext h v0, cell_ext h v1, hD6.grown h (by simp), hD7.grown h (by simp), heap_grown hrA (grown_trans hgr6 h)⟩
          have KF : Hid (∀ w' : World, w6.grownBy w' none → w'.cell? ⟨B6, 0, none⟩ = some (.pointer (some ⟨bl, 0, none⟩)) ∧ w'.cell? ⟨B6, 1, none⟩ = some (.int .i64 L1.e) ∧ w'.cell? ⟨B7, 0, none⟩ = some (.pointer (some ⟨bh, 0, none⟩)) ∧ w'.cell? ⟨B7, 1, none⟩ = some (.int .i64 L1.e) ∧ w'.frozen? ⟨B6, 0, none⟩ = false ∧ w'.frozen? ⟨B6, 1, none⟩ = false ∧ w'.frozen? ⟨B7, 0, none⟩ = false ∧ w'.frozen? ⟨B7, 1, none⟩ = false) := fun w' h => by
            obtain ⟨_, _, _, _, g0, g1⟩ := (hD6.grown h (by simp)).open
            obtain ⟨_, _, _, _, k0, k1⟩ := (hD7.grown h (by simp)).open
            exact ⟨cell_ext h y0, cell_ext h y1, cell_ext h z0, cell_ext h z1, g0, g1, k0, k1⟩
          have K6 : Hid (∀ (w' : World) (y : Option Addr) (e : Int), (w'.cell? ⟨w5.heap.size, 0, none⟩ = some (.pointer (some ⟨ra, 0, none⟩)) ∧ w'.cell? ⟨w5.heap.size, 1, none⟩ = some (.int .i64 rq.e) ∧ w'.cell? ⟨w5.heap.size + 1, 0, none⟩ = some (.pointer (some ⟨rb, 0, none⟩)) ∧ w'.cell? ⟨w5.heap.size + 1, 1, none⟩ = some (.int .i64 rq.e) ∧ Duo w' B6 ∧ Duo w' B7 ∧ w'.heap[w3.heap.size]? = some (.cells #[.pointer (some ⟨b2, 0, none⟩), .int .i64 p.e, .pointer (some ⟨b3, 0, none⟩), .int .i64 q.e] 120 (0, 0))) → (fun w' : World => w'.cell? ⟨w5.heap.size, 0, none⟩ = some (.pointer (some ⟨ra, 0, none⟩)) ∧ w'.cell? ⟨w5.heap.size, 1, none⟩ = some (.int .i64 rq.e) ∧ w'.cell? ⟨w5.heap.size + 1, 0, none⟩ = some (.pointer (some ⟨rb, 0, none⟩)) ∧ w'.cell? ⟨w5.heap.size + 1, 1, none⟩ = some (.int .i64 rq.e) ∧ Duo w' B6 ∧ Duo w' B7 ∧ w'.heap[w3.heap.size]? = some (.cells #[.pointer (some ⟨b2, 0, none⟩), .int .i64 p.e, .pointer (some ⟨b3, 0, none⟩), .int .i64 q.e] 120 (0, 0))) ((w'.setCell ⟨B6, 0, none⟩ (.pointer y)).setCell ⟨B6, 1, none⟩ (.int .i64 e))) := fun w' y e ⟨h1, h2, h3, h4, h5, h6, h7⟩ => by
            refine ⟨?_, ?_, ?_, ?_, (h5.set y e).1, (h6.out (fun h => hB67 h.symm)).out (fun h => hB67 h.symm), ?_⟩
            · rw [cell_set_out (by simp only; omega), cell_set_out (by simp only; omega)]; exact h1
            · rw [cell_set_out (by simp only; omega), cell_set_out (by simp only; omega)]; exact h2
            · rw [cell_set_out (by simp only; omega), cell_set_out (by simp only; omega)]; exact h3
            · rw [cell_set_out (by simp only; omega), cell_set_out (by simp only; omega)]; exact h4
            · rw [heap_set_out (by omega), heap_set_out (by omega)]; exact h7
          have K7 : Hid (∀ (w' : World) (y : Option Addr) (e : Int), (w'.cell? ⟨w5.heap.size, 0, none⟩ = some (.pointer (some ⟨ra, 0, none⟩)) ∧ w'.cell? ⟨w5.heap.size, 1, none⟩ = some (.int .i64 rq.e) ∧ w'.cell? ⟨w5.heap.size + 1, 0, none⟩ = some (.pointer (some ⟨rb, 0, none⟩)) ∧ w'.cell? ⟨w5.heap.size + 1, 1, none⟩ = some (.int .i64 rq.e) ∧ Duo w' B6 ∧ Duo w' B7 ∧ w'.heap[w3.heap.size]? = some (.cells #[.pointer (some ⟨b2, 0, none⟩), .int .i64 p.e, .pointer (some ⟨b3, 0, none⟩), .int .i64 q.e] 120 (0, 0))) → (fun w' : World => w'.cell? ⟨w5.heap.size, 0, none⟩ = some (.pointer (some ⟨ra, 0, none⟩)) ∧ w'.cell? ⟨w5.heap.size, 1, none⟩ = some (.int .i64 rq.e) ∧ w'.cell? ⟨w5.heap.size + 1, 0, none⟩ = some (.pointer (some ⟨rb, 0, none⟩)) ∧ w'.cell? ⟨w5.heap.size + 1, 1, none⟩ = some (.int .i64 rq.e) ∧ Duo w' B6 ∧ Duo w' B7 ∧ w'.heap[w3.heap.size]? = some (.cells #[.pointer (some ⟨b2, 0, none⟩), .int .i64 p.e, .pointer (some ⟨b3, 0, none⟩), .int .i64 q.e] 120 (0, 0))) ((w'.setCell ⟨B7, 0, none⟩ (.pointer y)).setCell ⟨B7, 1, none⟩ (.int .i64 e))) := fun w' y e ⟨h1, h2, h3, h4, h5, h6, h7⟩ => by
            refine ⟨?_, ?_, ?_, ?_, (h5.out hB67).out hB67, (h6.set y e).1, ?_⟩
            · rw [cell_set_out (by simp only; omega), cell_set_out (by simp only; omega)]; exact h1
            · rw [cell_set_out (by simp only; omega), cell_set_out (by simp only; omega)]; exact h2
            · rw [cell_set_out (by simp only; omega), cell_set_out (by simp only; omega)]; exact h3
            · rw [cell_set_out (by simp only; omega), cell_set_out (by simp only; omega)]; exact h4
            · rw [heap_set_out (by omega), heap_set_out (by omega)]; exact h7
          have hpl := HS.out.2.plus
          have HPL := Lib.hid hpl
          clear hw6 hg56 r10 r11 hgr6 hr6 hr7 hrA h66 h76 u0 u1 v0 v1 hra hrb hb5 hg5 hD6 hD7 hpl HR s0 s1 s2 s3
          refine wp_region_held_drew (S := fun w' : World => w'.cell? ⟨w5.heap.size, 0, none⟩ = some (.pointer (some ⟨ra, 0, none⟩)) ∧ w'.cell? ⟨w5.heap.size, 1, none⟩ = some (.int .i64 rq.e) ∧ w'.cell? ⟨w5.heap.size + 1, 0, none⟩ = some (.pointer (some ⟨rb, 0, none⟩)) ∧ w'.cell? ⟨w5.heap.size + 1, 1, none⟩ = some (.int .i64 rq.e) ∧ Duo w' B6 ∧ Duo w' B7 ∧ w'.heap[w3.heap.size]? = some (.cells #[.pointer (some ⟨b2, 0, none⟩), .int .i64 p.e, .pointer (some ⟨b3, 0, none⟩), .int .i64 q.e] 120 (0, 0))) (by kernel_rfl) ?_ (fun hHeld => ?_)
          · first
              | with_reducible exact KS.out _ (grown_drews _ _)
              | with_reducible exact KS.out _ (drew_grown _)
              | with_reducible exact KS.out _ hGl
              | with_reducible exact KS.out _ hGh
              | with_reducible exact KS.out _ (grown_trans hGl (drew_grown _))
              | with_reducible exact KS.out _ (grown_trans hGh (drew_grown _))
              | with_reducible exact K6.out _ _ _ (KS.out _ hGl)
              | with_reducible exact K6.out _ _ _ (KS.out _ hGh)
              | with_reducible exact K7.out _ _ _ (KS.out _ hGl)
              | with_reducible exact K7.out _ _ _ (KS.out _ hGh)
              | with_reducible exact K7.out _ _ _ (K6.out _ _ _ (KS.out _ hGl))
              | with_reducible exact K7.out _ _ _ (K6.out _ _ _ (KS.out _ hGh))
              | with_reducible exact K6.out _ _ _ (K7.out _ _ _ (KS.out _ hGl))
              | with_reducible exact K6.out _ _ _ (K7.out _ _ _ (KS.out _ hGh))
          refine wpAnyH_take (i := 1) (v := .agg #[.pointer (some ⟨ra, 0, none⟩), .int .i64 rq.e]) rfl (by kernel_rfl) (by kernel_rfl) (by kernel_rfl) (fun _ _ _ h => h) (Or.inl ⟨by rfl, ?_⟩) (by assumption) ?_
          · intro w hSw
            (try dsimp only at hSw)
            go_simp
          simp only [Act.put, List.setIfInBounds_toArray, List.set_cons_zero, List.set_cons_succ]
          refine wpAnyH_take (i := 4) (v := .agg #[.pointer (some ⟨rb, 0, none⟩), .int .i64 rq.e]) rfl (by kernel_rfl) (by kernel_rfl) (by kernel_rfl) (fun _ _ _ h => h) (Or.inl ⟨by rfl, ?_⟩) (by assumption) ?_
          · intro w hSw
            (try dsimp only at hSw)
            go_simp
          simp only [Act.put, List.setIfInBounds_toArray, List.set_cons_zero, List.set_cons_succ]
          refine wpAnyH_ready (rs := [0, 3]) (by kernel_rfl) (by simp) ?_
          refine AllReadyH.cons rfl (fun K hK => ?_) (AllReadyH.cons rfl (fun K hK => ?_) AllReadyH.nil)
          · (try simp only [List.getElem_toArray, List.getElem_cons_zero, List.getElem_cons_succ])
            go_simp
            refine hK.out _ _ ?_ (fun hHeld => ?_)
            · try dsimp only
              first
                | with_reducible exact KS.out _ (grown_drews _ _)
                | with_reducible exact KS.out _ (drew_grown _)
                | with_reducible exact KS.out _ hGl
                | with_reducible exact KS.out _ hGh
                | with_reducible exact KS.out _ (grown_trans hGl (drew_grown _))
                | with_reducible exact KS.out _ (grown_trans hGh (drew_grown _))
                | with_reducible exact K6.out _ _ _ (KS.out _ hGl)
                | with_reducible exact K6.out _ _ _ (KS.out _ hGh)
                | with_reducible exact K7.out _ _ _ (KS.out _ hGl)
                | with_reducible exact K7.out _ _ _ (KS.out _ hGh)
                | with_reducible exact K7.out _ _ _ (K6.out _ _ _ (KS.out _ hGl))
                | with_reducible exact K7.out _ _ _ (K6.out _ _ _ (KS.out _ hGh))
                | with_reducible exact K6.out _ _ _ (K7.out _ _ _ (KS.out _ hGl))
                | with_reducible exact K6.out _ _ _ (K7.out _ _ _ (KS.out _ hGh))
            clear hK K
            (try simp only [Act.put, List.setIfInBounds_toArray, List.set_cons_zero, List.set_cons_succ])
            clear hHeld
            refine wpAnyH_ready (rs := [2, 3]) (by kernel_rfl) (by simp) ?_
            refine AllReadyH.cons rfl (fun K hK => ?_) (AllReadyH.cons rfl (fun K hK => ?_) AllReadyH.nil)
            · (try simp only [List.getElem_toArray, List.getElem_cons_zero, List.getElem_cons_succ])
              go_simp
              (go_at_call_of 128 (Value.agg #[.pointer (some ⟨bl, 0, none⟩), .int .i64 L1.e]); refine (explus_calls _ _ L1 rq _ ⟨bl, rfl, HLl6.out.grown0 (by first | with_reducible exact hGh | with_reducible exact grown_trans hGh (drew_grown _) | with_reducible exact grown_trans hGh (grown_drews _ _) | with_reducible exact drew_grown _ | with_reducible exact grown_drews _ _)⟩ HS.out.2.sm1 ⟨ra, rfl, HA6.out.grown0 (by first | with_reducible exact hGh | with_reducible exact grown_trans hGh (drew_grown _) | with_reducible exact grown_trans hGh (grown_drews _ _) | with_reducible exact drew_grown _ | with_reducible exact grown_drews _ _)⟩ HS.out.2.sm2).mono ?_; intro e1 wl hh; rw [HPL.out] at hh; obtain ⟨nl, rfl, hIl, hgl⟩ := hh.grow; have hGl : w6.grownBy wl none := (by first | with_reducible exact grown_trans hGh hgl | with_reducible exact grown_trans hGh (grown_trans (drew_grown _) hgl) | with_reducible exact grown_trans hGh (grown_trans (grown_drews _ _) hgl) | with_reducible exact grown_trans (drew_grown _) hgl | with_reducible exact grown_trans (grown_drews _ _) hgl); obtain ⟨y0, y1, z0, z1, fy0, fy1, fz0, fz1⟩ := KF.out _ hGl; have HIl := Lib.hid hIl; (try (have HIh2 := Lib.hid (HIh.out.grown0 (by first | with_reducible exact hgl | with_reducible exact grown_trans (drew_grown _) hgl | with_reducible exact grown_trans (grown_drews _ _) hgl)))); clear hh hIl)
              (try go_wp2_with fail)
              refine hK.out _ _ ?_ (fun hHeld => ?_)
              · try dsimp only
                first
                  | with_reducible exact KS.out _ (grown_drews _ _)
                  | with_reducible exact KS.out _ (drew_grown _)
                  | with_reducible exact KS.out _ hGl
                  | with_reducible exact KS.out _ hGh
                  | with_reducible exact KS.out _ (grown_trans hGl (drew_grown _))
                  | with_reducible exact KS.out _ (grown_trans hGh (drew_grown _))
                  | with_reducible exact K6.out _ _ _ (KS.out _ hGl)
                  | with_reducible exact K6.out _ _ _ (KS.out _ hGh)
                  | with_reducible exact K7.out _ _ _ (KS.out _ hGl)
                  | with_reducible exact K7.out _ _ _ (KS.out _ hGh)
                  | with_reducible exact K7.out _ _ _ (K6.out _ _ _ (KS.out _ hGl))
                  | with_reducible exact K7.out _ _ _ (K6.out _ _ _ (KS.out _ hGh))
                  | with_reducible exact K6.out _ _ _ (K7.out _ _ _ (KS.out _ hGl))
                  | with_reducible exact K6.out _ _ _ (K7.out _ _ _ (KS.out _ hGh))
              clear hK K
              (try simp only [Act.put, List.setIfInBounds_toArray, List.set_cons_zero, List.set_cons_succ])
              clear hHeld
              refine wpAnyH_ready (rs := [3]) (by kernel_rfl) (by simp) ?_
              refine AllReadyH.cons rfl (fun K hK => ?_) AllReadyH.nil
              (try simp only [List.getElem_toArray, List.getElem_cons_zero, List.getElem_cons_succ])
              go_simp
              refine hK.out _ _ ?_ (fun hHeld => ?_)
              · try dsimp only
                first
                  | with_reducible exact KS.out _ (grown_drews _ _)
                  | with_reducible exact KS.out _ (drew_grown _)
                  | with_reducible exact KS.out _ hGl
                  | with_reducible exact KS.out _ hGh
                  | with_reducible exact KS.out _ (grown_trans hGl (drew_grown _))
                  | with_reducible exact KS.out _ (grown_trans hGh (drew_grown _))
                  | with_reducible exact K6.out _ _ _ (KS.out _ hGl)
                  | with_reducible exact K6.out _ _ _ (KS.out _ hGh)
                  | with_reducible exact K7.out _ _ _ (KS.out _ hGl)
                  | with_reducible exact K7.out _ _ _ (KS.out _ hGh)
                  | with_reducible exact K7.out _ _ _ (K6.out _ _ _ (KS.out _ hGl))
                  | with_reducible exact K7.out _ _ _ (K6.out _ _ _ (KS.out _ hGh))
                  | with_reducible exact K6.out _ _ _ (K7.out _ _ _ (KS.out _ hGl))
                  | with_reducible exact K6.out _ _ _ (K7.out _ _ _ (KS.out _ hGh))
              clear hK K
              (try simp only [Act.put, List.setIfInBounds_toArray, List.set_cons_zero, List.set_cons_succ])
              clear hHeld
              refine wpAnyH_ready (rs := [5]) (by kernel_rfl) (by simp) ?_
              refine AllReadyH.cons rfl (fun K hK => ?_) AllReadyH.nil
              (try simp only [List.getElem_toArray, List.getElem_cons_zero, List.getElem_cons_succ])
              go_simp
              (go_at_call_of 128 (Value.agg #[.pointer (some ⟨bh, 0, none⟩), .int .i64 L1.e]); refine (explus_calls _ _ L1 rq _ ⟨bh, rfl, HLh6.out.grown0 (by first | with_reducible exact hGl | with_reducible exact grown_trans hGl (drew_grown _) | with_reducible exact grown_trans hGl (grown_drews _ _) | with_reducible exact drew_grown _ | with_reducible exact grown_drews _ _)⟩ HS.out.2.sm1 ⟨rb, rfl, HB6'.out.grown0 (by first | with_reducible exact hGl | with_reducible exact grown_trans hGl (drew_grown _) | with_reducible exact grown_trans hGl (grown_drews _ _) | with_reducible exact drew_grown _ | with_reducible exact grown_drews _ _)⟩ HS.out.2.sm2).mono ?_; intro e1 wh hh; rw [HPL.out] at hh; obtain ⟨nh, rfl, hIh, hgh⟩ := hh.grow; have hGh : w6.grownBy wh none := (by first | with_reducible exact grown_trans hGl hgh | with_reducible exact grown_trans hGl (grown_trans (drew_grown _) hgh) | with_reducible exact grown_trans hGl (grown_trans (grown_drews _ _) hgh) | with_reducible exact grown_trans (drew_grown _) hgh | with_reducible exact grown_trans (grown_drews _ _) hgh); obtain ⟨y0, y1, z0, z1, fy0, fy1, fz0, fz1⟩ := KF.out _ hGh; have HIh := Lib.hid hIh; (try (have HIl2 := Lib.hid (HIl.out.grown0 (by first | with_reducible exact hgh | with_reducible exact grown_trans (drew_grown _) hgh | with_reducible exact grown_trans (grown_drews _ _) hgh)))); clear hh hIh)
              (try go_wp2_with fail)
              refine hK.out _ _ ?_ (fun hHeld => ?_)
              · try dsimp only
                first
                  | with_reducible exact KS.out _ (grown_drews _ _)
                  | with_reducible exact KS.out _ (drew_grown _)
                  | with_reducible exact KS.out _ hGl
                  | with_reducible exact KS.out _ hGh
                  | with_reducible exact KS.out _ (grown_trans hGl (drew_grown _))
                  | with_reducible exact KS.out _ (grown_trans hGh (drew_grown _))
                  | with_reducible exact K6.out _ _ _ (KS.out _ hGl)
                  | with_reducible exact K6.out _ _ _ (KS.out _ hGh)
                  | with_reducible exact K7.out _ _ _ (KS.out _ hGl)
                  | with_reducible exact K7.out _ _ _ (KS.out _ hGh)
                  | with_reducible exact K7.out _ _ _ (K6.out _ _ _ (KS.out _ hGl))
                  | with_reducible exact K7.out _ _ _ (K6.out _ _ _ (KS.out _ hGh))
                  | with_reducible exact K6.out _ _ _ (K7.out _ _ _ (KS.out _ hGl))
                  | with_reducible exact K6.out _ _ _ (K7.out _ _ _ (KS.out _ hGh))
              clear hK K
              (try simp only [Act.put, List.setIfInBounds_toArray, List.set_cons_zero, List.set_cons_succ])
              clear hHeld
              refine wpAnyH_ready (rs := [6]) (by kernel_rfl) (by simp) ?_
              refine AllReadyH.cons rfl (fun K hK => ?_) AllReadyH.nil
              (try simp only [List.getElem_toArray, List.getElem_cons_zero, List.getElem_cons_succ])
              go_simp
              refine hK.out _ _ ?_ (fun hHeld => ?_)
              · try dsimp only
                first
                  | with_reducible exact KS.out _ (grown_drews _ _)
                  | with_reducible exact KS.out _ (drew_grown _)
                  | with_reducible exact KS.out _ hGl
                  | with_reducible exact KS.out _ hGh
                  | with_reducible exact KS.out _ (grown_trans hGl (drew_grown _))
                  | with_reducible exact KS.out _ (grown_trans hGh (drew_grown _))
                  | with_reducible exact K6.out _ _ _ (KS.out _ hGl)
                  | with_reducible exact K6.out _ _ _ (KS.out _ hGh)
                  | with_reducible exact K7.out _ _ _ (KS.out _ hGl)
                  | with_reducible exact K7.out _ _ _ (KS.out _ hGh)
                  | with_reducible exact K7.out _ _ _ (K6.out _ _ _ (KS.out _ hGl))
                  | with_reducible exact K7.out _ _ _ (K6.out _ _ _ (KS.out _ hGh))
                  | with_reducible exact K6.out _ _ _ (K7.out _ _ _ (KS.out _ hGl))
                  | with_reducible exact K6.out _ _ _ (K7.out _ _ _ (KS.out _ hGh))
              clear hK K
              (try simp only [Act.put, List.setIfInBounds_toArray, List.set_cons_zero, List.set_cons_succ])
              clear hHeld
              refine wpAnyH_ready (rs := [7]) (by kernel_rfl) (by simp) ?_
              refine AllReadyH.cons rfl (fun K hK => ?_) AllReadyH.nil
              (try simp only [List.getElem_toArray, List.getElem_cons_zero, List.getElem_cons_succ])
              go_simp
              refine hK.out _ _ ?_ (fun hHeld => ?_)
              · try dsimp only
                first
                  | with_reducible exact KS.out _ (grown_drews _ _)
                  | with_reducible exact KS.out _ (drew_grown _)
                  | with_reducible exact KS.out _ hGl
                  | with_reducible exact KS.out _ hGh
                  | with_reducible exact KS.out _ (grown_trans hGl (drew_grown _))
                  | with_reducible exact KS.out _ (grown_trans hGh (drew_grown _))
                  | with_reducible exact K6.out _ _ _ (KS.out _ hGl)
                  | with_reducible exact K6.out _ _ _ (KS.out _ hGh)
                  | with_reducible exact K7.out _ _ _ (KS.out _ hGl)
                  | with_reducible exact K7.out _ _ _ (KS.out _ hGh)
                  | with_reducible exact K7.out _ _ _ (K6.out _ _ _ (KS.out _ hGl))
                  | with_reducible exact K7.out _ _ _ (K6.out _ _ _ (KS.out _ hGh))
                  | with_reducible exact K6.out _ _ _ (K7.out _ _ _ (KS.out _ hGl))
                  | with_reducible exact K6.out _ _ _ (K7.out _ _ _ (KS.out _ hGh))
              clear hK K
              (try simp only [Act.put, List.setIfInBounds_toArray, List.set_cons_zero, List.set_cons_succ])
              clear hHeld
              refine wpAnyH_done (by kernel_rfl) ?_ _
              first
                | (have HN := Lib.hid (near_put (w2 := w2) (KS.out _ hGh).2.2.2.2.1 (KS.out _ hGh).2.2.2.2.2.1 hB67 hB6 hB7 (by omega) (by omega) HIl2.out HIh.out (grown_trans HG.out (grown_trans HGr6.out hGh)) (KS.out _ hGh).2.2.2.2.2.2))
                | (have HN := Lib.hid (near_put (w2 := w2) (KS.out _ hGl).2.2.2.2.1 (KS.out _ hGl).2.2.2.2.2.1 hB67 hB6 hB7 (by omega) (by omega) HIl.out HIh2.out (grown_trans HG.out (grown_trans HGr6.out hGl)) (KS.out _ hGl).2.2.2.2.2.2))
              go_wp2
              refine ⟨⟨1+1, by omega, rfl, nl, nh, ?_, ?_, ?_⟩, by simp [intOf]⟩
              · exact HN.out.1
              · exact HN.out.2.1
              · exact HN.out.2.2
            · (try simp only [List.getElem_toArray, List.getElem_cons_zero, List.getElem_cons_succ])
              go_simp
              refine hK.out _ _ ?_ (fun hHeld => ?_)
              · try dsimp only
                first
                  | with_reducible exact KS.out _ (grown_drews _ _)
                  | with_reducible exact KS.out _ (drew_grown _)
                  | with_reducible exact KS.out _ hGl
                  | with_reducible exact KS.out _ hGh
                  | with_reducible exact KS.out _ (grown_trans hGl (drew_grown _))
                  | with_reducible exact KS.out _ (grown_trans hGh (drew_grown _))
                  | with_reducible exact K6.out _ _ _ (KS.out _ hGl)
                  | with_reducible exact K6.out _ _ _ (KS.out _ hGh)
                  | with_reducible exact K7.out _ _ _ (KS.out _ hGl)
                  | with_reducible exact K7.out _ _ _ (KS.out _ hGh)
                  | with_reducible exact K7.out _ _ _ (K6.out _ _ _ (KS.out _ hGl))
                  | with_reducible exact K7.out _ _ _ (K6.out _ _ _ (KS.out _ hGh))
                  | with_reducible exact K6.out _ _ _ (K7.out _ _ _ (KS.out _ hGl))
                  | with_reducible exact K6.out _ _ _ (K7.out _ _ _ (KS.out _ hGh))
              clear hK K
              (try simp only [Act.put, List.setIfInBounds_toArray, List.set_cons_zero, List.set_cons_succ])
              clear hHeld
              refine wpAnyH_ready (rs := [2]) (by kernel_rfl) (by simp) ?_
              refine AllReadyH.cons rfl (fun K hK => ?_) AllReadyH.nil
              (try simp only [List.getElem_toArray, List.getElem_cons_zero, List.getElem_cons_succ])
              go_simp
              (go_at_call_of 128 (Value.agg #[.pointer (some ⟨bl, 0, none⟩), .int .i64 L1.e]); refine (explus_calls _ _ L1 rq _ ⟨bl, rfl, HLl6.out.grown0 (by first | with_reducible exact hGh | with_reducible exact grown_trans hGh (drew_grown _) | with_reducible exact grown_trans hGh (grown_drews _ _) | with_reducible exact drew_grown _ | with_reducible exact grown_drews _ _)⟩ HS.out.2.sm1 ⟨ra, rfl, HA6.out.grown0 (by first | with_reducible exact hGh | with_reducible exact grown_trans hGh (drew_grown _) | with_reducible exact grown_trans hGh (grown_drews _ _) | with_reducible exact drew_grown _ | with_reducible exact grown_drews _ _)⟩ HS.out.2.sm2).mono ?_; intro e1 wl hh; rw [HPL.out] at hh; obtain ⟨nl, rfl, hIl, hgl⟩ := hh.grow; have hGl : w6.grownBy wl none := (by first | with_reducible exact grown_trans hGh hgl | with_reducible exact grown_trans hGh (grown_trans (drew_grown _) hgl) | with_reducible exact grown_trans hGh (grown_trans (grown_drews _ _) hgl) | with_reducible exact grown_trans (drew_grown _) hgl | with_reducible exact grown_trans (grown_drews _ _) hgl); obtain ⟨y0, y1, z0, z1, fy0, fy1, fz0, fz1⟩ := KF.out _ hGl; have HIl := Lib.hid hIl; (try (have HIh2 := Lib.hid (HIh.out.grown0 (by first | with_reducible exact hgl | with_reducible exact grown_trans (drew_grown _) hgl | with_reducible exact grown_trans (grown_drews _ _) hgl)))); clear hh hIl)
              (try go_wp2_with fail)
              refine hK.out _ _ ?_ (fun hHeld => ?_)
              · try dsimp only
                first
                  | with_reducible exact KS.out _ (grown_drews _ _)
                  | with_reducible exact KS.out _ (drew_grown _)
                  | with_reducible exact KS.out _ hGl
                  | with_reducible exact KS.out _ hGh
                  | with_reducible exact KS.out _ (grown_trans hGl (drew_grown _))
                  | with_reducible exact KS.out _ (grown_trans hGh (drew_grown _))
                  | with_reducible exact K6.out _ _ _ (KS.out _ hGl)
                  | with_reducible exact K6.out _ _ _ (KS.out _ hGh)
                  | with_reducible exact K7.out _ _ _ (KS.out _ hGl)
                  | with_reducible exact K7.out _ _ _ (KS.out _ hGh)
                  | with_reducible exact K7.out _ _ _ (K6.out _ _ _ (KS.out _ hGl))
                  | with_reducible exact K7.out _ _ _ (K6.out _ _ _ (KS.out _ hGh))
                  | with_reducible exact K6.out _ _ _ (K7.out _ _ _ (KS.out _ hGl))
                  | with_reducible exact K6.out _ _ _ (K7.out _ _ _ (KS.out _ hGh))
              clear hK K
              (try simp only [Act.put, List.setIfInBounds_toArray, List.set_cons_zero, List.set_cons_succ])
              clear hHeld
              refine wpAnyH_ready (rs := [5]) (by kernel_rfl) (by simp) ?_
              refine AllReadyH.cons rfl (fun K hK => ?_) AllReadyH.nil
              (try simp only [List.getElem_toArray, List.getElem_cons_zero, List.getElem_cons_succ])
              go_simp
              (go_at_call_of 128 (Value.agg #[.pointer (some ⟨bh, 0, none⟩), .int .i64 L1.e]); refine (explus_calls _ _ L1 rq _ ⟨bh, rfl, HLh6.out.grown0 (by first | with_reducible exact hGl | with_reducible exact grown_trans hGl (drew_grown _) | with_reducible exact grown_trans hGl (grown_drews _ _) | with_reducible exact drew_grown _ | with_reducible exact grown_drews _ _)⟩ HS.out.2.sm1 ⟨rb, rfl, HB6'.out.grown0 (by first | with_reducible exact hGl | with_reducible exact grown_trans hGl (drew_grown _) | with_reducible exact grown_trans hGl (grown_drews _ _) | with_reducible exact drew_grown _ | with_reducible exact grown_drews _ _)⟩ HS.out.2.sm2).mono ?_; intro e1 wh hh; rw [HPL.out] at hh; obtain ⟨nh, rfl, hIh, hgh⟩ := hh.grow; have hGh : w6.grownBy wh none := (by first | with_reducible exact grown_trans hGl hgh | with_reducible exact grown_trans hGl (grown_trans (drew_grown _) hgh) | with_reducible exact grown_trans hGl (grown_trans (grown_drews _ _) hgh) | with_reducible exact grown_trans (drew_grown _) hgh | with_reducible exact grown_trans (grown_drews _ _) hgh); obtain ⟨y0, y1, z0, z1, fy0, fy1, fz0, fz1⟩ := KF.out _ hGh; have HIh := Lib.hid hIh; (try (have HIl2 := Lib.hid (HIl.out.grown0 (by first | with_reducible exact hgh | with_reducible exact grown_trans (drew_grown _) hgh | with_reducible exact grown_trans (grown_drews _ _) hgh)))); clear hh hIh)
              (try go_wp2_with fail)
              refine hK.out _ _ ?_ (fun hHeld => ?_)
              · try dsimp only
                first
                  | with_reducible exact KS.out _ (grown_drews _ _)
                  | with_reducible exact KS.out _ (drew_grown _)
                  | with_reducible exact KS.out _ hGl
                  | with_reducible exact KS.out _ hGh
                  | with_reducible exact KS.out _ (grown_trans hGl (drew_grown _))
                  | with_reducible exact KS.out _ (grown_trans hGh (drew_grown _))
                  | with_reducible exact K6.out _ _ _ (KS.out _ hGl)
                  | with_reducible exact K6.out _ _ _ (KS.out _ hGh)
                  | with_reducible exact K7.out _ _ _ (KS.out _ hGl)
                  | with_reducible exact K7.out _ _ _ (KS.out _ hGh)
                  | with_reducible exact K7.out _ _ _ (K6.out _ _ _ (KS.out _ hGl))
                  | with_reducible exact K7.out _ _ _ (K6.out _ _ _ (KS.out _ hGh))
                  | with_reducible exact K6.out _ _ _ (K7.out _ _ _ (KS.out _ hGl))
                  | with_reducible exact K6.out _ _ _ (K7.out _ _ _ (KS.out _ hGh))
              clear hK K
              (try simp only [Act.put, List.setIfInBounds_toArray, List.set_cons_zero, List.set_cons_succ])
              clear hHeld
              refine wpAnyH_ready (rs := [6]) (by kernel_rfl) (by simp) ?_
              refine AllReadyH.cons rfl (fun K hK => ?_) AllReadyH.nil
              (try simp only [List.getElem_toArray, List.getElem_cons_zero, List.getElem_cons_succ])
              go_simp
              refine hK.out _ _ ?_ (fun hHeld => ?_)
              · try dsimp only
                first
                  | with_reducible exact KS.out _ (grown_drews _ _)
                  | with_reducible exact KS.out _ (drew_grown _)
                  | with_reducible exact KS.out _ hGl
                  | with_reducible exact KS.out _ hGh
                  | with_reducible exact KS.out _ (grown_trans hGl (drew_grown _))
                  | with_reducible exact KS.out _ (grown_trans hGh (drew_grown _))
                  | with_reducible exact K6.out _ _ _ (KS.out _ hGl)
                  | with_reducible exact K6.out _ _ _ (KS.out _ hGh)
                  | with_reducible exact K7.out _ _ _ (KS.out _ hGl)
                  | with_reducible exact K7.out _ _ _ (KS.out _ hGh)
                  | with_reducible exact K7.out _ _ _ (K6.out _ _ _ (KS.out _ hGl))
                  | with_reducible exact K7.out _ _ _ (K6.out _ _ _ (KS.out _ hGh))
                  | with_reducible exact K6.out _ _ _ (K7.out _ _ _ (KS.out _ hGl))
                  | with_reducible exact K6.out _ _ _ (K7.out _ _ _ (KS.out _ hGh))
              clear hK K
              (try simp only [Act.put, List.setIfInBounds_toArray, List.set_cons_zero, List.set_cons_succ])
              clear hHeld
              refine wpAnyH_ready (rs := [7]) (by kernel_rfl) (by simp) ?_
              refine AllReadyH.cons rfl (fun K hK => ?_) AllReadyH.nil
              (try simp only [List.getElem_toArray, List.getElem_cons_zero, List.getElem_cons_succ])
              go_simp
              refine hK.out _ _ ?_ (fun hHeld => ?_)
              · try dsimp only
                first
                  | with_reducible exact KS.out _ (grown_drews _ _)
                  | with_reducible exact KS.out _ (drew_grown _)
                  | with_reducible exact KS.out _ hGl
                  | with_reducible exact KS.out _ hGh
                  | with_reducible exact KS.out _ (grown_trans hGl (drew_grown _))
                  | with_reducible exact KS.out _ (grown_trans hGh (drew_grown _))
                  | with_reducible exact K6.out _ _ _ (KS.out _ hGl)
                  | with_reducible exact K6.out _ _ _ (KS.out _ hGh)
                  | with_reducible exact K7.out _ _ _ (KS.out _ hGl)
                  | with_reducible exact K7.out _ _ _ (KS.out _ hGh)
                  | with_reducible exact K7.out _ _ _ (K6.out _ _ _ (KS.out _ hGl))
                  | with_reducible exact K7.out _ _ _ (K6.out _ _ _ (KS.out _ hGh))
                  | with_reducible exact K6.out _ _ _ (K7.out _ _ _ (KS.out _ hGl))
                  | with_reducible exact K6.out _ _ _ (K7.out _ _ _ (KS.out _ hGh))
              clear hK K
              (try simp only [Act.put, List.setIfInBounds_toArray, List.set_cons_zero, List.set_cons_succ])
              clear hHeld
              refine wpAnyH_done (by kernel_rfl) ?_ _
              first
                | (have HN := Lib.hid (near_put (w2 := w2) (KS.out _ hGh).2.2.2.2.1 (KS.out _ hGh).2.2.2.2.2.1 hB67 hB6 hB7 (by omega) (by omega) HIl2.out HIh.out (grown_trans HG.out (grown_trans HGr6.out hGh)) (KS.out _ hGh).2.2.2.2.2.2))
                | (have HN := Lib.hid (near_put (w2 := w2) (KS.out _ hGl).2.2.2.2.1 (KS.out _ hGl).2.2.2.2.2.1 hB67 hB6 hB7 (by omega) (by omega) HIl.out HIh2.out (grown_trans HG.out (grown_trans HGr6.out hGl)) (KS.out _ hGl).2.2.2.2.2.2))
              go_wp2
              refine ⟨⟨1+1, by omega, rfl, nl, nh, ?_, ?_, ?_⟩, by simp [intOf]⟩
              · exact HN.out.1
              · exact HN.out.2.1
              · exact HN.out.2.2
          · (try simp only [List.getElem_toArray, List.getElem_cons_zero, List.getElem_cons_succ])
            go_simp
            refine hK.out _ _ ?_ (fun hHeld => ?_)
            · try dsimp only
              first
                | with_reducible exact KS.out _ (grown_drews _ _)
                | with_reducible exact KS.out _ (drew_grown _)
                | with_reducible exact KS.out _ hGl
                | with_reducible exact KS.out _ hGh
                | with_reducible exact KS.out _ (grown_trans hGl (drew_grown _))
                | with_reducible exact KS.out _ (grown_trans hGh (drew_grown _))
                | with_reducible exact K6.out _ _ _ (KS.out _ hGl)
                | with_reducible exact K6.out _ _ _ (KS.out _ hGh)
                | with_reducible exact K7.out _ _ _ (KS.out _ hGl)
                | with_reducible exact K7.out _ _ _ (KS.out _ hGh)
                | with_reducible exact K7.out _ _ _ (K6.out _ _ _ (KS.out _ hGl))
                | with_reducible exact K7.out _ _ _ (K6.out _ _ _ (KS.out _ hGh))
                | with_reducible exact K6.out _ _ _ (K7.out _ _ _ (KS.out _ hGl))
                | with_reducible exact K6.out _ _ _ (K7.out _ _ _ (KS.out _ hGh))
            clear hK K
            (try simp only [Act.put, List.setIfInBounds_toArray, List.set_cons_zero, List.set_cons_succ])
            clear hHeld
            refine wpAnyH_ready (rs := [0]) (by kernel_rfl) (by simp) ?_
            refine AllReadyH.cons rfl (fun K hK => ?_) AllReadyH.nil
            (try simp only [List.getElem_toArray, List.getElem_cons_zero, List.getElem_cons_succ])
            go_simp
            refine hK.out _ _ ?_ (fun hHeld => ?_)
            · try dsimp only
              first
                | with_reducible exact KS.out _ (grown_drews _ _)
                | with_reducible exact KS.out _ (drew_grown _)
                | with_reducible exact KS.out _ hGl
                | with_reducible exact KS.out _ hGh
                | with_reducible exact KS.out _ (grown_trans hGl (drew_grown _))
                | with_reducible exact KS.out _ (grown_trans hGh (drew_grown _))
                | with_reducible exact K6.out _ _ _ (KS.out _ hGl)
                | with_reducible exact K6.out _ _ _ (KS.out _ hGh)
                | with_reducible exact K7.out _ _ _ (KS.out _ hGl)
                | with_reducible exact K7.out _ _ _ (KS.out _ hGh)
                | with_reducible exact K7.out _ _ _ (K6.out _ _ _ (KS.out _ hGl))
                | with_reducible exact K7.out _ _ _ (K6.out _ _ _ (KS.out _ hGh))
                | with_reducible exact K6.out _ _ _ (K7.out _ _ _ (KS.out _ hGl))
                | with_reducible exact K6.out _ _ _ (K7.out _ _ _ (KS.out _ hGh))
            clear hK K
            (try simp only [Act.put, List.setIfInBounds_toArray, List.set_cons_zero, List.set_cons_succ])
            clear hHeld
            refine wpAnyH_ready (rs := [2]) (by kernel_rfl) (by simp) ?_
            refine AllReadyH.cons rfl (fun K hK => ?_) AllReadyH.nil
            (try simp only [List.getElem_toArray, List.getElem_cons_zero, List.getElem_cons_succ])
            go_simp
            (go_at_call_of 128 (Value.agg #[.pointer (some ⟨bl, 0, none⟩), .int .i64 L1.e]); refine (explus_calls _ _ L1 rq _ ⟨bl, rfl, HLl6.out.grown0 (by first | with_reducible exact hGh | with_reducible exact grown_trans hGh (drew_grown _) | with_reducible exact grown_trans hGh (grown_drews _ _) | with_reducible exact drew_grown _ | with_reducible exact grown_drews _ _)⟩ HS.out.2.sm1 ⟨ra, rfl, HA6.out.grown0 (by first | with_reducible exact hGh | with_reducible exact grown_trans hGh (drew_grown _) | with_reducible exact grown_trans hGh (grown_drews _ _) | with_reducible exact drew_grown _ | with_reducible exact grown_drews _ _)⟩ HS.out.2.sm2).mono ?_; intro e1 wl hh; rw [HPL.out] at hh; obtain ⟨nl, rfl, hIl, hgl⟩ := hh.grow; have hGl : w6.grownBy wl none := (by first | with_reducible exact grown_trans hGh hgl | with_reducible exact grown_trans hGh (grown_trans (drew_grown _) hgl) | with_reducible exact grown_trans hGh (grown_trans (grown_drews _ _) hgl) | with_reducible exact grown_trans (drew_grown _) hgl | with_reducible exact grown_trans (grown_drews _ _) hgl); obtain ⟨y0, y1, z0, z1, fy0, fy1, fz0, fz1⟩ := KF.out _ hGl; have HIl := Lib.hid hIl; (try (have HIh2 := Lib.hid (HIh.out.grown0 (by first | with_reducible exact hgl | with_reducible exact grown_trans (drew_grown _) hgl | with_reducible exact grown_trans (grown_drews _ _) hgl)))); clear hh hIl)
            (try go_wp2_with fail)
            refine hK.out _ _ ?_ (fun hHeld => ?_)
            · try dsimp only
              first
                | with_reducible exact KS.out _ (grown_drews _ _)
                | with_reducible exact KS.out _ (drew_grown _)
                | with_reducible exact KS.out _ hGl
                | with_reducible exact KS.out _ hGh
                | with_reducible exact KS.out _ (grown_trans hGl (drew_grown _))
                | with_reducible exact KS.out _ (grown_trans hGh (drew_grown _))
                | with_reducible exact K6.out _ _ _ (KS.out _ hGl)
                | with_reducible exact K6.out _ _ _ (KS.out _ hGh)
                | with_reducible exact K7.out _ _ _ (KS.out _ hGl)
                | with_reducible exact K7.out _ _ _ (KS.out _ hGh)
                | with_reducible exact K7.out _ _ _ (K6.out _ _ _ (KS.out _ hGl))
                | with_reducible exact K7.out _ _ _ (K6.out _ _ _ (KS.out _ hGh))
                | with_reducible exact K6.out _ _ _ (K7.out _ _ _ (KS.out _ hGl))
                | with_reducible exact K6.out _ _ _ (K7.out _ _ _ (KS.out _ hGh))
            clear hK K
            (try simp only [Act.put, List.setIfInBounds_toArray, List.set_cons_zero, List.set_cons_succ])
            clear hHeld
            refine wpAnyH_ready (rs := [5]) (by kernel_rfl) (by simp) ?_
            refine AllReadyH.cons rfl (fun K hK => ?_) AllReadyH.nil
            (try simp only [List.getElem_toArray, List.getElem_cons_zero, List.getElem_cons_succ])
            go_simp
            (go_at_call_of 128 (Value.agg #[.pointer (some ⟨bh, 0, none⟩), .int .i64 L1.e]); refine (explus_calls _ _ L1 rq _ ⟨bh, rfl, HLh6.out.grown0 (by first | with_reducible exact hGl | with_reducible exact grown_trans hGl (drew_grown _) | with_reducible exact grown_trans hGl (grown_drews _ _) | with_reducible exact drew_grown _ | with_reducible exact grown_drews _ _)⟩ HS.out.2.sm1 ⟨rb, rfl, HB6'.out.grown0 (by first | with_reducible exact hGl | with_reducible exact grown_trans hGl (drew_grown _) | with_reducible exact grown_trans hGl (grown_drews _ _) | with_reducible exact drew_grown _ | with_reducible exact grown_drews _ _)⟩ HS.out.2.sm2).mono ?_; intro e1 wh hh; rw [HPL.out] at hh; obtain ⟨nh, rfl, hIh, hgh⟩ := hh.grow; have hGh : w6.grownBy wh none := (by first | with_reducible exact grown_trans hGl hgh | with_reducible exact grown_trans hGl (grown_trans (drew_grown _) hgh) | with_reducible exact grown_trans hGl (grown_trans (grown_drews _ _) hgh) | with_reducible exact grown_trans (drew_grown _) hgh | with_reducible exact grown_trans (grown_drews _ _) hgh); obtain ⟨y0, y1, z0, z1, fy0, fy1, fz0, fz1⟩ := KF.out _ hGh; have HIh := Lib.hid hIh; (try (have HIl2 := Lib.hid (HIl.out.grown0 (by first | with_reducible exact hgh | with_reducible exact grown_trans (drew_grown _) hgh | with_reducible exact grown_trans (grown_drews _ _) hgh)))); clear hh hIh)
            (try go_wp2_with fail)
            refine hK.out _ _ ?_ (fun hHeld => ?_)
            · try dsimp only
              first
                | with_reducible exact KS.out _ (grown_drews _ _)
                | with_reducible exact KS.out _ (drew_grown _)
                | with_reducible exact KS.out _ hGl
                | with_reducible exact KS.out _ hGh
                | with_reducible exact KS.out _ (grown_trans hGl (drew_grown _))
                | with_reducible exact KS.out _ (grown_trans hGh (drew_grown _))
                | with_reducible exact K6.out _ _ _ (KS.out _ hGl)
                | with_reducible exact K6.out _ _ _ (KS.out _ hGh)
                | with_reducible exact K7.out _ _ _ (KS.out _ hGl)
                | with_reducible exact K7.out _ _ _ (KS.out _ hGh)
                | with_reducible exact K7.out _ _ _ (K6.out _ _ _ (KS.out _ hGl))
                | with_reducible exact K7.out _ _ _ (K6.out _ _ _ (KS.out _ hGh))
                | with_reducible exact K6.out _ _ _ (K7.out _ _ _ (KS.out _ hGl))
                | with_reducible exact K6.out _ _ _ (K7.out _ _ _ (KS.out _ hGh))
            clear hK K
            (try simp only [Act.put, List.setIfInBounds_toArray, List.set_cons_zero, List.set_cons_succ])
            clear hHeld
            refine wpAnyH_ready (rs := [6]) (by kernel_rfl) (by simp) ?_
            refine AllReadyH.cons rfl (fun K hK => ?_) AllReadyH.nil
            (try simp only [List.getElem_toArray, List.getElem_cons_zero, List.getElem_cons_succ])
            go_simp
            refine hK.out _ _ ?_ (fun hHeld => ?_)
            · try dsimp only
              first
                | with_reducible exact KS.out _ (grown_drews _ _)
                | with_reducible exact KS.out _ (drew_grown _)
                | with_reducible exact KS.out _ hGl
                | with_reducible exact KS.out _ hGh
                | with_reducible exact KS.out _ (grown_trans hGl (drew_grown _))
                | with_reducible exact KS.out _ (grown_trans hGh (drew_grown _))
                | with_reducible exact K6.out _ _ _ (KS.out _ hGl)
                | with_reducible exact K6.out _ _ _ (KS.out _ hGh)
                | with_reducible exact K7.out _ _ _ (KS.out _ hGl)
                | with_reducible exact K7.out _ _ _ (KS.out _ hGh)
                | with_reducible exact K7.out _ _ _ (K6.out _ _ _ (KS.out _ hGl))
                | with_reducible exact K7.out _ _ _ (K6.out _ _ _ (KS.out _ hGh))
                | with_reducible exact K6.out _ _ _ (K7.out _ _ _ (KS.out _ hGl))
                | with_reducible exact K6.out _ _ _ (K7.out _ _ _ (KS.out _ hGh))
            clear hK K
            (try simp only [Act.put, List.setIfInBounds_toArray, List.set_cons_zero, List.set_cons_succ])
            clear hHeld
            refine wpAnyH_ready (rs := [7]) (by kernel_rfl) (by simp) ?_
            refine AllReadyH.cons rfl (fun K hK => ?_) AllReadyH.nil
            (try simp only [List.getElem_toArray, List.getElem_cons_zero, List.getElem_cons_succ])
            go_simp
            refine hK.out _ _ ?_ (fun hHeld => ?_)
            · try dsimp only
              first
                | with_reducible exact KS.out _ (grown_drews _ _)
                | with_reducible exact KS.out _ (drew_grown _)
                | with_reducible exact KS.out _ hGl
                | with_reducible exact KS.out _ hGh
                | with_reducible exact KS.out _ (grown_trans hGl (drew_grown _))
                | with_reducible exact KS.out _ (grown_trans hGh (drew_grown _))
                | with_reducible exact K6.out _ _ _ (KS.out _ hGl)
                | with_reducible exact K6.out _ _ _ (KS.out _ hGh)
                | with_reducible exact K7.out _ _ _ (KS.out _ hGl)
                | with_reducible exact K7.out _ _ _ (KS.out _ hGh)
                | with_reducible exact K7.out _ _ _ (K6.out _ _ _ (KS.out _ hGl))
                | with_reducible exact K7.out _ _ _ (K6.out _ _ _ (KS.out _ hGh))
                | with_reducible exact K6.out _ _ _ (K7.out _ _ _ (KS.out _ hGl))
                | with_reducible exact K6.out _ _ _ (K7.out _ _ _ (KS.out _ hGh))
            clear hK K
            (try simp only [Act.put, List.setIfInBounds_toArray, List.set_cons_zero, List.set_cons_succ])
            clear hHeld
            refine wpAnyH_done (by kernel_rfl) ?_ _
            first
              | (have HN := Lib.hid (near_put (w2 := w2) (KS.out _ hGh).2.2.2.2.1 (KS.out _ hGh).2.2.2.2.2.1 hB67 hB6 hB7 (by omega) (by omega) HIl2.out HIh.out (grown_trans HG.out (grown_trans HGr6.out hGh)) (KS.out _ hGh).2.2.2.2.2.2))
              | (have HN := Lib.hid (near_put (w2 := w2) (KS.out _ hGl).2.2.2.2.1 (KS.out _ hGl).2.2.2.2.2.1 hB67 hB6 hB7 (by omega) (by omega) HIl.out HIh2.out (grown_trans HG.out (grown_trans HGr6.out hGl)) (KS.out _ hGl).2.2.2.2.2.2))
            go_wp2
            refine ⟨⟨1+1, by omega, rfl, nl, nh, ?_, ?_, ?_⟩, by simp [intOf]⟩
            · exact HN.out.1
            · exact HN.out.2.1
            · exact HN.out.2.2
end Go.Proofs.YtjbdadhggejoiaaGreatDoor
