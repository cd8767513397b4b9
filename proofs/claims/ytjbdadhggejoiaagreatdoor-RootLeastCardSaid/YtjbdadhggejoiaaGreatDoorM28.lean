/- balls: the magnitudes of the ball that is tried. -/
import Derived.Test.YtjbdadhggejoiaaGreatDoorM27
import Derived.Test.YtjbdadhggejoiaaGreatDoorM26

namespace Go.Proofs.YtjbdadhggejoiaaGreatDoor
open Go.RowKit
set_option maxRecDepth 100000
attribute [local go_sem] run_frombits run_bits store_f store_c

theorem Three.lt9 {w : World} {r : Nat} (h : Three w r) : r < w.heap.size := by
  obtain ⟨x, A, n, c, e, t, h⟩ := h
  exact (Array.getElem?_eq_some_iff.1 h).1
theorem set3_size {w : World} {B : Nat} {a b c : Value} : (((w.setCell ⟨B, 0, none⟩ a).setCell ⟨B, 1, none⟩ b).setCell ⟨B, 2, none⟩ c).heap.size = w.heap.size := by simp
theorem varAA {w3 w : World} {n1 n2 : Bool} {m1 m2 : Nat} {e1 e2 : Int} {A1 A2 : Option Addr} {c1 c2 : Nat} {t1 t2 : TypeId} (h1 : DR w (NV n1 A1 (words m1).length c1 e1) ⟨n1, m1, e1⟩) (h2 : DR w (NV n2 A2 (words m2).length c2 e2) ⟨n2, m2, e2⟩) (hg : w3.grownBy w none) :
    VarN w3 ((w.alloc (.cells #[.bool n1, .slice A1 (words m1).length c1, .int .i64 e1] t1)).alloc (.cells #[.bool n2, .slice A2 (words m2).length c2, .int .i64 e2] t2)) w.heap.size n1 m1 e1 A1 c1 ∧ VarN w3 ((w.alloc (.cells #[.bool n1, .slice A1 (words m1).length c1, .int .i64 e1] t1)).alloc (.cells #[.bool n2, .slice A2 (words m2).length c2, .int .i64 e2] t2)) (w.heap.size + 1) n2 m2 e2 A2 c2 := by
  refine ⟨(VarN.alloc h1 hg).ext (grown_alloc _ _ _), ?_⟩
  have := VarN.alloc (t := t2) (h2.grown0 (grown_alloc w (.cells #[.bool n1, .slice A1 (words m1).length c1, .int .i64 e1] t1) none)) (grown_trans hg (grown_alloc _ _ _))
  rwa [show (w.alloc (.cells #[.bool n1, .slice A1 (words m1).length c1, .int .i64 e1] t1)).heap.size = w.heap.size + 1 by simp] at this
theorem varSA {w3 w : World} {B : Nat} {n1 n2 : Bool} {m1 m2 : Nat} {e1 e2 : Int} {A1 A2 : Option Addr} {c1 c2 : Nat} {t2 : TypeId} (h1 : DR w (NV n1 A1 (words m1).length c1 e1) ⟨n1, m1, e1⟩) (h2 : DR w (NV n2 A2 (words m2).length c2 e2) ⟨n2, m2, e2⟩) (hg : w3.grownBy w none) (hT : Three w B) (hB : w3.heap.size ≤ B) :
    VarN w3 ((((w.setCell ⟨B, 0, none⟩ (.bool n1)).setCell ⟨B, 1, none⟩ (.slice A1 (words m1).length c1)).setCell ⟨B, 2, none⟩ (.int .i64 e1)).alloc (.cells #[.bool n2, .slice A2 (words m2).length c2, .int .i64 e2] t2)) B n1 m1 e1 A1 c1 ∧ VarN w3 ((((w.setCell ⟨B, 0, none⟩ (.bool n1)).setCell ⟨B, 1, none⟩ (.slice A1 (words m1).length c1)).setCell ⟨B, 2, none⟩ (.int .i64 e1)).alloc (.cells #[.bool n2, .slice A2 (words m2).length c2, .int .i64 e2] t2)) w.heap.size n2 m2 e2 A2 c2 := by
  refine ⟨(VarN.set hT h1 hg hB).ext (grown_alloc _ _ _), ?_⟩
  have := VarN.alloc (t := t2) (NR.grownR h2 (three_gr (B := B) (a := .bool n1) (b := .slice A1 (words m1).length c1) (c := .int .i64 e1)) hT.rec') (three_grown hg hB)
  rwa [set3_size] at this
theorem varSS {w3 w : World} {B B' : Nat} {n1 n2 : Bool} {m1 m2 : Nat} {e1 e2 : Int} {A1 A2 : Option Addr} {c1 c2 : Nat} (h1 : DR w (NV n1 A1 (words m1).length c1 e1) ⟨n1, m1, e1⟩) (h2 : DR w (NV n2 A2 (words m2).length c2 e2) ⟨n2, m2, e2⟩) (hg : w3.grownBy w none) (hT : Three w B) (hT' : Three w B') (hB : w3.heap.size ≤ B) (hB' : w3.heap.size ≤ B') (hne : B ≠ B') :
    VarN w3 ((((((w.setCell ⟨B, 0, none⟩ (.bool n1)).setCell ⟨B, 1, none⟩ (.slice A1 (words m1).length c1)).setCell ⟨B, 2, none⟩ (.int .i64 e1)).setCell ⟨B', 0, none⟩ (.bool n2)).setCell ⟨B', 1, none⟩ (.slice A2 (words m2).length c2)).setCell ⟨B', 2, none⟩ (.int .i64 e2)) B n1 m1 e1 A1 c1 ∧ VarN w3 ((((((w.setCell ⟨B, 0, none⟩ (.bool n1)).setCell ⟨B, 1, none⟩ (.slice A1 (words m1).length c1)).setCell ⟨B, 2, none⟩ (.int .i64 e1)).setCell ⟨B', 0, none⟩ (.bool n2)).setCell ⟨B', 1, none⟩ (.slice A2 (words m2).length c2)).setCell ⟨B', 2, none⟩ (.int .i64 e2)) B' n2 m2 e2 A2 c2 := by
  have hT2 := ((hT'.out (i := 0) (v := .bool n1) (fun e => hne e.symm)).out (i := 1) (v := .slice A1 (words m1).length c1) (fun e => hne e.symm)).out (i := 2) (v := .int .i64 e1) (fun e => hne e.symm)
  exact ⟨(VarN.set hT h1 hg hB).other hT2 hne hB', VarN.set hT2 (NR.grownR h2 three_gr hT.rec') (three_grown hg hB) hB'⟩
theorem has4 : hasB 4616189618054758400 0 4607182418800017408 0 0 = false := by decide +kernel
set_option maxHeartbeats 4000000 in
theorem babs_calls (w : World) (hT : Tab w) :
    Calls Tryz.prog 37 #[BV 4616189618054758400 0 4607182418800017408] w fun e w' => e = .returned (.tuple #[.agg #[.float .f64 4613937818241073152, .float .f64 4617315517961601024], .int .i64 0]) ∧ w.grownBy w' none := by
  have fx : Fin64 4616189618054758400 := ⟨by decide, by decide⟩
  have fy : Fin64 0 := ⟨by decide, by decide⟩
  have fr : Fin64 4607182418800017408 := ⟨by decide, by decide⟩
  have H1 := Lib.hid (fun W => valid_calls 4616189618054758400 0 4607182418800017408 W fx fy fr)
  have H2 := Lib.hid (fun W => whole_calls 4616189618054758400 0 4607182418800017408 W (nf_fin fx) (nf_fin fy) (nf_fin fr))
  have hn := fun W (h : Tab W) => bnum_calls 4607182418800017408 W fr h
  rw [n1] at hn
  have ha := fun W (h : Tab W) => bapart_calls 4616189618054758400 0 0 0 W apk h
  rw [a16] at ha
  have H3 := Lib.hid hn
  have H4 := Lib.hid ha
  have hh := fun W (h : Tab W) => bhas_calls 4616189618054758400 0 4607182418800017408 0 0 W apk fr rfl (.inr ⟨by decide +kernel, by decide +kernel, by decide +kernel, by decide +kernel⟩) h
  rw [has4] at hh
  have H5 := Lib.hid hh
  have H6 := Lib.hid (fun W => bplain_calls 4617315517961601024 W rfl)
  rw [show fneg 4607182418800017408 = false from rfl] at H1
  rw [show (decide (4616189618054758400 = 0) && decide (0 = 0) && decide (4607182418800017408 = 9218868437227405312)) = false from rfl] at H2
  unfold BV at *
  clear fx fy fr hn ha hh
  go_enter Tryz.func37, Tryz.ntmps37
  go_upto_region 1 with fail
  obtain ⟨w2, hw2⟩ : ∃ w2, w2 = (w.alloc (.cells #[.complex .f64 4616189618054758400 0, .float .f64 4607182418800017408] 39)).alloc (.cells #[.float .f64 0, .float .f64 0] 63) := ⟨_, rfl⟩
  have r0 : w2.heap[w.heap.size]? = some (.cells #[.complex .f64 4616189618054758400 0, .float .f64 4607182418800017408] 39 (0, 0)) := by rw [hw2]; exact heap_old (heap_at rfl)
  have r1 : w2.heap[w.heap.size + 1]? = some (.cells #[.float .f64 0, .float .f64 0] 63 (0, 0)) := by rw [hw2]; exact heap_at (by simp)
  have hg2 : w.grownBy w2 none := by rw [hw2]; exact grown_trans (grown_alloc _ _ _) (grown_alloc _ _ _)
  rw [← hw2]
  have KC : Hid (∀ w' : World, w2.grownBy w' none → (w'.cell? ⟨w.heap.size, 0, none⟩ = some (.complex .f64 4616189618054758400 0) ∧ w'.cell? ⟨w.heap.size, 1, none⟩ = some (.float .f64 4607182418800017408)) ∧ Tab w' ∧ w.grownBy w' none ∧ w'.heap[w.heap.size + 1]? = some (.cells #[.float .f64 0, .float .f64 0] 63 (0, 0))) := fun w' h => ⟨row2 (heap_grown r0 h), hT.ext (grown_trans hg2 h), grown_trans hg2 h, heap_grown r1 h⟩
  obtain ⟨x0, x1⟩ := row2 r0
  clear hw2 r0 r1 hg2 hT
  go_wp2_with fail
  refine (H1.out _).mono ?_
  rintro e3 wa ⟨rfl, hg⟩
  obtain ⟨⟨x0, x1⟩, _, _⟩ := KC.out _ hg
  have HGa := Lib.hid hg
  clear hg
  go_wp2_with fail
  refine (H2.out _).mono ?_
  rintro e3 w3 ⟨rfl, hg⟩
  have HG3 := Lib.hid (grown_trans HGa.out hg)
  have KS : Hid (∀ w' : World, w3.grownBy w' none → w'.cell? ⟨w.heap.size, 0, none⟩ = some (.complex .f64 4616189618054758400 0) ∧ w'.cell? ⟨w.heap.size, 1, none⟩ = some (.float .f64 4607182418800017408) ∧ w3.grownBy w' none ∧ Tab w') := fun w' h => ⟨(KC.out _ (grown_trans HG3.out h)).1.1, (KC.out _ (grown_trans HG3.out h)).1.2, h, (KC.out _ (grown_trans HG3.out h)).2.1⟩
  obtain ⟨⟨x0, x1⟩, _, _⟩ := KC.out _ HG3.out
  clear hg
  go_upto_region 5 with fail
  have hb0 : w3.heap.size ≤ w3.heap.size := Nat.le_refl _
  have hb1 : w3.heap.size ≤ w3.heap.size + 1 := Nat.le_succ _
  go_cut [4, 5] (fun v4 v5 wx => ∃ B4 B5 A1 c1 A2 c2, v4 = .pointer (some ⟨B4, 0, none⟩) ∧ v5 = .pointer (some ⟨B5, 0, none⟩) ∧ VarN w3 wx B4 d1.neg d1.m d1.e A1 c1 ∧ VarN w3 wx B5 d16.neg d16.m d16.e A2 c2)
  case first =>
    go_region_held3 (fun w' : World => w'.cell? ⟨w.heap.size, 0, none⟩ = some (.complex .f64 4616189618054758400 0) ∧ w'.cell? ⟨w.heap.size, 1, none⟩ = some (.float .f64 4607182418800017408) ∧ w3.grownBy w' none ∧ Tab w')
      (first
        | with_reducible exact KS.out _ (three_grown (three_grown hGp hsn) hsn1)
        | with_reducible exact KS.out _ (three_grown (three_grown hGp hsn1) hsn)
        | with_reducible exact KS.out _ (three_grown (three_grown hGp hb0) hb1)
        | with_reducible exact KS.out _ (three_grown (three_grown hGp hb1) hb0)
        | with_reducible exact KS.out _ (three_grown (three_grown hGp hb0) hsn)
        | with_reducible exact KS.out _ (three_grown (three_grown hGp hsn) hb0)
        | with_reducible exact KS.out _ (three_grown hGp hsn)
        | with_reducible exact KS.out _ (three_grown hGp hb0)
        | with_reducible exact KS.out _ (three_grown hGp hsn1)
        | with_reducible exact KS.out _ (three_grown hGp hb1)
        | with_reducible exact KS.out _ (grown_trans (three_grown hGp hsn) (grown_alloc _ _ _))
        | with_reducible exact KS.out _ (grown_trans (three_grown hGp hb0) (grown_alloc _ _ _))
        | with_reducible exact KS.out _ (grown_trans (three_grown hGp hsn1) (grown_alloc _ _ _))
        | with_reducible exact KS.out _ (grown_trans (three_grown hGp hb1) (grown_alloc _ _ _))
        | with_reducible exact KS.out _ hGp
        | with_reducible exact KS.out _ hGn
        | with_reducible exact KS.out _ (grown_trans hGp (grown_alloc _ _ _))
        | with_reducible exact KS.out _ (grown_trans (grown_trans hGp (grown_alloc _ _ _)) (grown_alloc _ _ _))
        | with_reducible exact KS.out _ (drew_grown' _)
        | (go_split_ands; with_reducible exact KS.out _ (grown_trans (by assumption) (grown_alloc _ _ _))))
      (first
        | (go_at_call 58; go_split_ands; refine (H3.out _ (by assumption)).mono ?_; rintro e3 wn ⟨vn, rfl, hdn, hbn⟩; have hgn := grown_of_below hbn none; have hGn := grown_trans (show w3.grownBy _ none by assumption) hgn; have hsn := hGn.size; have hsn1 : w3.heap.size ≤ wn.heap.size + 1 := Nat.le_succ_of_le hsn; obtain ⟨An, cn, rfl, hn1, hn2, hn3⟩ := hdn; have KN : Hid (DR wn (NV d1.neg An (words d1.m).length cn d1.e) ⟨d1.neg, d1.m, d1.e⟩) := ⟨An, cn, rfl, hn1, hn2, hn3⟩; (first | (have hn2 : ((w3.alloc (.cells #[.bool false, .slice none 0 0, .int .i64 0] 74)).alloc (.cells #[.bool false, .slice none 0 0, .int .i64 0] 74)).grownBy wn none := (by first | with_reducible exact hgn | with_reducible exact grown_trans (drew_grown' _) hgn); have hA1 : Three wn w3.heap.size := Three.grown ⟨_, _, _, _, _, _, heap_old (heap_alloc_new w3 _)⟩ hn2 (by simp); have hA2 : Three wn (w3.heap.size + 1) := Three.grown ⟨_, _, _, _, _, _, heap_at (by simp)⟩ hn2 (by simp); obtain ⟨q1, q2, q3, q4, q5, m0, m1, m2, m3, m4, m5⟩ := hA1.open; have hlt_hA1 := Three.lt9 hA1; obtain ⟨p1, p2, p3, p4, p5, l0, l1, l2, l3, l4, l5⟩ := hA2.open; have hlt_hA2 := Three.lt9 hA2) | (have hn1 : (w3.alloc (.cells #[.bool false, .slice none 0 0, .int .i64 0] 74)).grownBy wn none := (by first | with_reducible exact hgn | with_reducible exact grown_trans (drew_grown' _) hgn); have hA1 : Three wn w3.heap.size := Three.grown ⟨_, _, _, _, _, _, heap_alloc_new w3 _⟩ hn1 (by simp); obtain ⟨q1, q2, q3, q4, q5, m0, m1, m2, m3, m4, m5⟩ := hA1.open; have hlt_hA1 := Three.lt9 hA1) | skip); clear hn1 hn2 hn3 hbn; unfold NV)
        | (go_at_call 59; go_split_ands; refine (H4.out _ (by assumption)).mono ?_; rintro e3 wp ⟨vp, rfl, hdp, hbp⟩; have hgp := grown_of_below hbp none; have hGp := grown_trans (show w3.grownBy _ none by assumption) hgp; obtain ⟨Ap, cp, rfl, hp1, hp2, hp3⟩ := hdp; have KP : Hid (DR wp (NV d16.neg Ap (words d16.m).length cp d16.e) ⟨d16.neg, d16.m, d16.e⟩) := ⟨Ap, cp, rfl, hp1, hp2, hp3⟩; have KN2 := Lib.hid (DR.grown0 KN.out (show wn.grownBy wp none by first | with_reducible exact hgp | with_reducible exact grown_trans (grown_alloc _ _ _) hgp | with_reducible exact grown_trans (grown_trans (grown_alloc _ _ _) (grown_alloc _ _ _)) hgp)); (first | (have hA1 : Three wp _ := Three.grown hA1 (show wn.grownBy wp none by first | with_reducible exact hgp | with_reducible exact grown_trans (grown_alloc _ _ _) hgp | with_reducible exact grown_trans (grown_trans (grown_alloc _ _ _) (grown_alloc _ _ _)) hgp) (by simp); obtain ⟨u1, u2, u3, u4, u5, r10, r11, r12, r13, r14, r15⟩ := hA1.open; have hltp_hA1 := Three.lt9 hA1) | skip); (first | (have hA2 : Three wp _ := Three.grown hA2 (show wn.grownBy wp none by first | with_reducible exact hgp | with_reducible exact grown_trans (grown_alloc _ _ _) hgp | with_reducible exact grown_trans (grown_trans (grown_alloc _ _ _) (grown_alloc _ _ _)) hgp) (by simp); obtain ⟨u1, u2, u3, u4, u5, r20, r21, r22, r23, r24, r25⟩ := hA2.open; have hltp_hA2 := Three.lt9 hA2) | skip); (first | (have hn2 : ((wn.alloc (.cells #[.bool false, .slice none 0 0, .int .i64 0] 74)).alloc (.cells #[.bool false, .slice none 0 0, .int .i64 0] 74)).grownBy wp none := (by first | with_reducible exact hgp | with_reducible exact grown_trans (drew_grown' _) hgp); have hB1 : Three wp wn.heap.size := Three.grown ⟨_, _, _, _, _, _, heap_old (heap_alloc_new wn _)⟩ hn2 (by simp); have hB2 : Three wp (wn.heap.size + 1) := Three.grown ⟨_, _, _, _, _, _, heap_at (by simp)⟩ hn2 (by simp); obtain ⟨q1, q2, q3, q4, q5, m0, m1, m2, m3, m4, m5⟩ := hB1.open; have hlt_hB1 := Three.lt9 hB1; obtain ⟨p1, p2, p3, p4, p5, l0, l1, l2, l3, l4, l5⟩ := hB2.open; have hlt_hB2 := Three.lt9 hB2) | (have hn1 : (wn.alloc (.cells #[.bool false, .slice none 0 0, .int .i64 0] 74)).grownBy wp none := (by first | with_reducible exact hgp | with_reducible exact grown_trans (drew_grown' _) hgp); have hB1 : Three wp wn.heap.size := Three.grown ⟨_, _, _, _, _, _, heap_alloc_new wn _⟩ hn1 (by simp); obtain ⟨q1, q2, q3, q4, q5, m0, m1, m2, m3, m4, m5⟩ := hB1.open; have hlt_hB1 := Three.lt9 hB1) | skip); clear hp1 hp2 hp3 hbp; unfold NV))
    all_goals
      go_wp2
      go_meet
    · exact ⟨_, _, An, cn, Ap, cp, rfl, rfl, varAA KN2.out KP.out hGp⟩
    · exact ⟨_, _, An, cn, Ap, cp, rfl, rfl, And.symm (varAA KP.out KN2.out hGp)⟩
    · exact ⟨_, _, An, cn, Ap, cp, rfl, rfl, varSA KN2.out KP.out hGp hB1 hsn⟩
    · exact ⟨_, _, An, cn, Ap, cp, rfl, rfl, varSS KN2.out KP.out hGp hB1 hB2 hsn hsn1 (Nat.ne_of_lt (Nat.lt_succ_self _))⟩
    · exact ⟨_, _, An, cn, Ap, cp, rfl, rfl, And.symm (varSA KP.out KN2.out hGp hB1 hsn)⟩
    · exact ⟨_, _, An, cn, Ap, cp, rfl, rfl, varSS KN2.out KP.out hGp hB2 hB1 hsn1 hsn (Nat.ne_of_lt (Nat.lt_succ_self _)).symm⟩
    · exact ⟨_, _, An, cn, Ap, cp, rfl, rfl, varSA KN2.out KP.out hGp hA1 hb0⟩
    · exact ⟨_, _, An, cn, Ap, cp, rfl, rfl, varSS KN2.out KP.out hGp hA1 hB1 hb0 hsn (Nat.ne_of_lt hlt_hA1)⟩
    · exact ⟨_, _, An, cn, Ap, cp, rfl, rfl, varSS KN2.out KP.out hGp hA1 hA2 hb0 hb1 (Nat.ne_of_lt (Nat.lt_succ_self _))⟩
    · exact ⟨_, _, An, cn, Ap, cp, rfl, rfl, And.symm (varSA KP.out KN2.out hGp hA1 hb0)⟩
    · exact ⟨_, _, An, cn, Ap, cp, rfl, rfl, varSS KN2.out KP.out hGp hB1 hA1 hsn hb0 (Nat.ne_of_lt hlt_hA1).symm⟩
    · exact ⟨_, _, An, cn, Ap, cp, rfl, rfl, varSS KN2.out KP.out hGp hA2 hA1 hb1 hb0 (Nat.ne_of_lt (Nat.lt_succ_self _)).symm⟩
  case rest =>
    obtain ⟨B4, B5, A1, c1, A2, c2, rfl, rfl, ⟨t4, hr4, hN4, hg4⟩, ⟨t5, hr5, hN5, _⟩⟩ := hcut
    have hlt := (Array.getElem?_eq_some_iff.1 hr4).1
    have KD : Hid (∀ W : World, wc.grownBy W none → ((W.cell? ⟨B4, 0, none⟩ = some (.bool d1.neg) ∧ W.cell? ⟨B4, 1, none⟩ = some (.slice A1 1 c1) ∧ W.cell? ⟨B4, 2, none⟩ = some (.int .i64 d1.e)) ∧ (W.cell? ⟨B5, 0, none⟩ = some (.bool d16.neg) ∧ W.cell? ⟨B5, 1, none⟩ = some (.slice A2 1 c2) ∧ W.cell? ⟨B5, 2, none⟩ = some (.int .i64 d16.e))) ∧ DR W (.agg #[.bool d1.neg, .slice A1 1 c1, .int .i64 d1.e]) d1 ∧ DR W (.agg #[.bool d16.neg, .slice A2 1 c2, .int .i64 d16.e]) d16) := fun W h =>
      ⟨⟨row3 (heap_grown hr4 h), row3 (heap_grown hr5 h)⟩, DR.grown0 hN4 h, DR.grown0 hN5 h⟩
    have HGc := Lib.hid (grown_trans HG3.out hg4)
    obtain ⟨⟨⟨x0, x1, x2⟩, ⟨y0, y1, y2⟩⟩, hd1, hd16⟩ := KD.out _ (grown_refl9 wc)
    have hz : DR wc (.agg #[.bool false, .slice none 0 0, .int .i64 0]) ⟨false, 0, 0⟩ := ⟨none, 0, rfl, Nat.le_refl _, by decide, Ws.nil⟩
    have HU := Lib.hid (up5_calls _ _ _ wc hd1 hd16 hz (KC.out _ HGc.out).2.1)
    clear hr4 hN4 hg4 hr5 hN5 hd1 hd16 hz hlt KS
    go_wp2_with fail
    refine HU.out.mono ?_
    rintro e3 w4 ⟨rfl, hg⟩
    have HG4 := Lib.hid hg
    clear hg x0 x1 x2 y0 y1 y2 HU
    go_wp2_with fail
    refine (H6.out _).mono ?_
    rintro e3 w5 ⟨rfl, rfl⟩
    obtain ⟨w5, hw5⟩ : ∃ w5, w5 = w4.alloc (.cells #[.float .f64 0, .float .f64 4617315517961601024] 63) := ⟨_, rfl⟩
    have hg5 : w4.grownBy w5 none := by rw [hw5]; exact grown_alloc _ _ _
    have r8 : w5.heap[w4.heap.size]? = some (.cells #[.float .f64 0, .float .f64 4617315517961601024] 63 (0, 0)) := by rw [hw5]; exact heap_alloc_new w4 _
    have HG5 := Lib.hid (grown_trans HG4.out hg5)
    have HW5 := Lib.hid hw5
    obtain ⟨⟨x0, x1⟩, hT5, _⟩ := KC.out _ (grown_trans HGc.out HG5.out)
    have H5b := Lib.hid (H5.out _ hT5)
    have HR8 := Lib.hid r8
    clear hw5 hg5 hT5 r8
    go_upto_region 8 with fail
    rw [← HW5.out]
    clear HW5
    go_wp2_with fail
    refine H5b.out.mono ?_
    rintro e3 w6 ⟨rfl, hg⟩
    have HG6 := Lib.hid (grown_trans HG5.out hg)
    obtain ⟨⟨⟨x0, x1, x2⟩, ⟨y0, y1, y2⟩⟩, hd1, hd16⟩ := KD.out _ HG6.out
    have HL := Lib.hid (bleast_calls _ _ w6 hd16 hd1 (KC.out _ (grown_trans HGc.out HG6.out)).2.1)
    have HR6 := Lib.hid (heap_grown HR8.out hg)
    clear hg hd1 hd16 HR8 H5b
    go_wp2_with fail
    refine HL.out.mono ?_
    rintro e3 w7 ⟨rfl, hg⟩
    have r7 := heap_grown HR6.out hg
    have HG7 := grown_trans HGc.out (grown_trans HG6.out hg)
    have rr := (KC.out _ HG7).2.2.2
    obtain ⟨z0, z1⟩ := row2 r7
    obtain ⟨u0, u1⟩ := row2 rr
    have fz0 := (row_cells r7 0).2
    have fu0 := (row_cells rr 0).2
    have fu1 := (row_cells rr 1).2
    have hne : w.heap.size + 1 ≠ w4.heap.size := by
      have h1 := (Array.getElem?_eq_some_iff.1 (KC.out _ (grown_trans HGc.out HG4.out)).2.2.2).1
      omega
    have HF : Hid (w.grownBy (((w7.setCell ⟨w4.heap.size, 0, none⟩ (.float .f64 4613937818241073152)).setCell ⟨w.heap.size + 1, 0, none⟩ (.float .f64 4613937818241073152)).setCell ⟨w.heap.size + 1, 1, none⟩ (.float .f64 4617315517961601024)) none) := by
      have h4 := (KC.out _ (grown_trans HGc.out HG4.out)).2.2.1.size
      exact grown_set_new (grown_set_new (grown_set_new (KC.out _ HG7).2.2.1 h4) (Nat.le_succ _)) (Nat.le_succ _)
    clear hg r7 rr HG7 x0 x1 x2 y0 y1 y2
    go_wp2
    refine bodyPost_ret (v := .tuple #[.agg #[.float .f64 4613937818241073152, .float .f64 4617315517961601024], .int .i64 0]) ?_ rfl ⟨rfl, HF.out⟩
    simp [results, Tryz.results37, go_sem, *]
end Go.Proofs.YtjbdadhggejoiaaGreatDoor
