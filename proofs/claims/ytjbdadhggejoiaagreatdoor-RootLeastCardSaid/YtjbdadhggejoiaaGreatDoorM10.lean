/- 'step' takes the divisor off: one digit of the quotient. -/
import Derived.Test.YtjbdadhggejoiaaGreatDoorM07
import Derived.Test.YtjbdadhggejoiaaGreatDoorM06
import Derived.Deep.DeepCutAuto
import Derived.Deep.CutBlock

namespace Go.Proofs.YtjbdadhggejoiaaGreatDoor
open Go.RowKit
set_option maxRecDepth 100000


theorem grown_trans {a b c : World} {r : Option Nat} (h : a.grownBy b r) (k : b.grownBy c r) : a.grownBy c r :=
  ⟨k.os.trans h.os, k.tape.trans h.tape, k.output.trans h.output, Nat.le_trans h.size k.size, fun i hi hr => (k.block i (Nat.lt_of_lt_of_le hi h.size) hr).trans (h.block i hi hr)⟩
theorem inv_set {ul ul' : List Nat} {j m i d : Nat} (h1 : IsW ul') (h2 : ul'.take j = ul.take j) (h3 : ul'.drop m = ul.drop m) (hd : d < 4294967296) (hi : j ≤ i) (hm : i < m) :
    IsW (ul'.set i d) ∧ (ul'.set i d).take j = ul.take j ∧ (ul'.set i d).drop m = ul.drop m :=
  ⟨h1.set hd, by rw [List.take_set_of_le hi, h2], by rw [List.drop_set_of_lt hm, h3]⟩

set_option maxHeartbeats 4000000 in
theorem step_calls (g cap base j k c lu cu : Nat) (ul vl : List Nat) (av : Addr) (w : World) (hlu : lu = ul.length - j) (hL : ul.length ≤ 2147483648) (hv : vl.length = k + 2) (hj : j + k + 2 < ul.length) (hvc : vl.length ≤ c)
    (hwu : IsW ul) (hwv : IsW vl) (htop : ∀ h : k + 1 < vl.length, 2147483648 ≤ vl[k + 1]) (hUV : val (ul.drop j) < 4294967296 * val vl)
    (hO : w.ownsRow base 51 1 (.slice (some ⟨g, 0, none⟩) ul.length cap) ul.length (uCells ul)) (hV : Ws w base (some av) vl) (hg : base ≤ g) (hbs : base ≤ w.heap.size) :
    Calls Tryz.prog 157 #[.slice (some ⟨g, j, none⟩) lu cu, .slice (some av) vl.length c] w fun e w' => e = .returned (.int .u32 (val (ul.drop j) / val vl : Nat)) ∧
      ∃ ul', ul'.length = ul.length ∧ IsW ul' ∧ ul'.take j = ul.take j ∧ val (ul'.drop j) = val (ul.drop j) % val vl ∧ w'.ownsRow base 51 1 (.slice (some ⟨g, 0, none⟩) ul.length cap) ul.length (uCells ul') ∧ w.grownBy w' (some g) := by
  obtain ⟨ua, hua⟩ : ∃ x, x = ul[j + (k + 2)]'(by omega) := ⟨_, rfl⟩
  obtain ⟨ub, hub⟩ : ∃ x, x = ul[j + (k + 1)]'(by omega) := ⟨_, rfl⟩
  obtain ⟨uc, huc⟩ : ∃ x, x = ul[j + k]'(by omega) := ⟨_, rfl⟩
  obtain ⟨vh, hvh⟩ : ∃ x, x = vl[k + 1]'(by omega) := ⟨_, rfl⟩
  obtain ⟨v2, hv2⟩ : ∃ x, x = vl[k]'(by omega) := ⟨_, rfl⟩
  have hkn := kn_of hv hj hwu hwv hvh hv2 hua hub huc (by rw [hvh]; exact htop (by omega)) hUV
  have gua := (own_at hO (j + (k + 2)) (by omega)).1
  have gub := (own_at hO (j + (k + 1)) (by omega)).1
  have guc := (own_at hO (j + k) (by omega)).1
  have gvh : w.cell? (av.add (k + 1)) = some (.int .u32 (vl[k + 1] : Nat)) := by
    obtain ⟨ad, e, _, h⟩ := hV.at_ (k + 1) (by omega)
    injection e with e; subst e; exact h
  have gv2 : w.cell? (av.add k) = some (.int .u32 (vl[k] : Nat)) := by
    obtain ⟨ad, e, _, h⟩ := hV.at_ k (by omega)
    injection e with e; subst e; exact h
  rw [← hua] at gua
  rw [← hub] at gub
  rw [← huc] at guc
  rw [← hvh] at gvh
  rw [← hv2] at gv2
  have b0 : ua < 4294967296 := by rw [hua]; exact hwu _ (List.getElem_mem _)
  have b1 : ub < 4294967296 := by rw [hub]; exact hwu _ (List.getElem_mem _)
  have b2 : uc < 4294967296 := by rw [huc]; exact hwu _ (List.getElem_mem _)
  have b3 : vh < 4294967296 := by rw [hvh]; exact hwv _ (List.getElem_mem _)
  have b4 : v2 < 4294967296 := by rw [hv2]; exact hwv _ (List.getElem_mem _)
  have b5 : 2147483648 ≤ vh := hkn.hvh
  have hor := short_or b1 b0
  have hq1 : ((vh : Int) == 0) = false := by rw [beq_eq_false_iff_ne]; omega
  have HO := Lib.hid hO
  have HV := Lib.hid hV
  have HW := Lib.hid hwu
  have HWv := Lib.hid hwv
  have HK := Lib.hid hkn
  have HL := Lib.hid hlu
  have hlu2 : k + 2 < lu := by omega
  have hlu3 : lu ≤ 2147483648 := by omega
  have HLv := Lib.hid hv
  rw [hv] at hvc ⊢
  rw [addr_succ _ _ (by omega)] at gvh
  clear hO hV hwu hwv htop hua hub huc hvh hv2 hkn hUV hlu hv
  obtain ⟨q, hq⟩ : ∃ q, q = val (ul.drop j) / val vl := ⟨_, rfl⟩
  have HQ := Lib.hid hq
  rw [← hq]
  have hdn : decide ((lu : Int) ≤ (k : Int) + 2) = false := by rw [decide_eq_false_iff_not]; omega
  have hs0 := HK.out.start
  rw [← hq] at hs0
  have hs1 := HK.out.small
  rw [← hq] at hs1
  have htl : (ua * 4294967296 + ub) / vh * vh ≤ ua * 4294967296 + ub := Nat.div_mul_le_self _ _
  have hte : (((ub : Int) + 4294967296 * (ua : Int)) / (vh : Int)) = (((ua * 4294967296 + ub) / vh : Nat) : Int) := by
    rw [Int.natCast_ediv]
    congr 1
    omega
  obtain ⟨T, hT⟩ : ∃ T, T = (ua * 4294967296 + ub) / vh := ⟨_, rfl⟩
  rw [← hT] at hte hs0 htl
  have HTL := Lib.hid htl
  have HTT := Lib.hid hT
  clear hq hT htl
  go_enter Tryz.func157, Tryz.ntmps157
  go_upto_region 4 with fail
  go_quiet (fail)
  go_upto_region 5 with fail
  go_cut [7] (fun v7 wx => ∃ gs : Nat, v7 = .int .u64 gs ∧ gs ≤ 4294967295 ∧ q ≤ gs ∧ Hid (gs * vh ≤ ua * 4294967296 + ub) ∧ wx = w.drewN nq)
  case first =>
    by_cases hm : T ≤ 4294967295
    · go_wp2
      go_meet
      exact ⟨T, rfl, hm, hs0, HTL, rfl⟩
    · go_wp2
      go_meet
      exact ⟨4294967295, rfl, by omega, hs1, Nat.le_trans (Nat.mul_le_mul_right _ (by omega)) HTL.out, rfl⟩
  case rest =>
    obtain ⟨gs0, rfl, hg0, hg1, hg2, rfl⟩ := hcut
    go_upto_block 0 with fail
    go_cut [7] (fun v7 wx => ∃ gs : Nat, v7 = .int .u64 gs ∧ gs ≤ 4294967295 ∧ q ≤ gs ∧ gs ≤ q + 1 ∧ ∃ n, wx = w.drewN n)
    case first =>
      --SKIP
      go_wp2_with fail
      go_loopw [7] (fun v7 wx => ∃ gs : Nat, v7 = .int .u64 gs ∧ gs ≤ 4294967295 ∧ q ≤ gs ∧ Hid (gs * vh ≤ ua * 4294967296 + ub) ∧ ∃ n, wx = w.drewN n) (fun v _ => (intOf v).toNat)
      case atStart => exact ⟨gs0, rfl, hg0, hg1, hg2, nq, rfl⟩
      case round =>
        obtain ⟨gs, rfl, hga, hgb, hgc, n, rfl⟩ := hrel
        clear hg0 hg1 hg2
        by_cases hz : gs = 0
        · subst hz
          go_wp2
          go_meet
          exact ⟨0, rfl, by omega, hgb, by omega, n, rfl⟩
        · have hgp : 0 < gs := by omega
          obtain ⟨p, hp⟩ : ∃ p, p = gs * vh := ⟨_, rfl⟩
          obtain ⟨r, hr⟩ : ∃ r, r = gs * v2 := ⟨_, rfl⟩
          have hpb : p ≤ 18446744065119617025 := by rw [hp]; exact Nat.mul_le_mul hga (by omega : vh ≤ 4294967295)
          have hrb : r ≤ 18446744065119617025 := by rw [hr]; exact Nat.mul_le_mul hga (by omega : v2 ≤ 4294967295)
          have hpt : p ≤ ua * 4294967296 + ub := by rw [hp]; exact hgc.out
          have hmp : (gs : Int) * (vh : Int) = (p : Int) := by rw [hp]; simp
          have hmr : (gs : Int) * (v2 : Int) = (r : Int) := by rw [hr]; simp
          obtain ⟨rs, hrs⟩ : ∃ rs, rs = ua * 4294967296 + ub - p := ⟨_, rfl⟩
          have hre : ((ub : Int) + 4294967296 * (ua : Int)) - (p : Int) = (rs : Int) := by omega
          have hrsb : rs ≤ 18446744073709551615 := by omega
          have HP := Lib.hid hp
          have HR := Lib.hid hr
          have HS := Lib.hid hrs
          clear hp hr hrs hpt
          go_wp2
          by_cases hbig : 4294967296 ≤ rs
          · have hpass : gs ≤ q + 1 := by
              rw [HQ.out]
              refine HK.out.pass hga hgc.out (.inl ?_)
              rw [← HP.out, ← HS.out]
              exact hbig
            have ht1 : ((rs : Int) / 4294967296 != 0) = true := by rw [bne_iff_ne]; omega
            go_quiet (fail)
            go_wp2
            go_meet
            exact ⟨gs, rfl, hga, hgb, hpass, _, by rw [World.drewN_drewN]⟩
          · have ht1 : ((rs : Int) / 4294967296) = 0 := by omega
            have hor2 := short_or b2 (show rs < 4294967296 by omega)
            by_cases hle : r ≤ uc + 4294967296 * rs
            · have hpass : gs ≤ q + 1 := by
                rw [HQ.out]
                refine HK.out.pass hga hgc.out (.inr ?_)
                rw [← HP.out, ← HS.out, ← HR.out]
                omega
              have ht2 : decide ((r : Int) ≤ (uc : Int) + 4294967296 * (rs : Int)) = true := by rw [decide_eq_true_iff]; omega
              go_quiet (fail)
              go_wp2
              go_meet
              exact ⟨gs, rfl, hga, hgb, hpass, _, by rw [World.drewN_drewN]⟩
            · have hmore : q < gs := by
                rw [HQ.out]
                refine HK.out.more ?_ hgc.out
                rw [← HP.out, ← HS.out, ← HR.out]
                omega
              have hmul : Hid ((gs - 1) * vh ≤ ua * 4294967296 + ub) := Nat.le_trans (Nat.mul_le_mul_right _ (by omega)) hgc.out
              have ht2 : decide ((r : Int) ≤ (uc : Int) + 4294967296 * (rs : Int)) = false := by rw [decide_eq_false_iff_not]; omega
              go_quiet (fail)
              go_wp2
              exact ⟨⟨gs - 1, by go_num, by omega, by omega, hmul, _, by first | rfl | rw [World.drewN_drewN]⟩, by simp [intOf]; omega⟩
      --PIKS
    case rest =>
      obtain ⟨gs, rfl, hga, hgb, hgc, n, rfl⟩ := hcut
      clear hg0 hg1 hg2
      go_upto_block 2 with fail
      go_cut [9, 10] (fun v9 v10 wx => ∃ (bo cy : Nat) (ul' : List Nat), v9 = .int .u64 bo ∧ v10 = .int .u64 cy ∧ bo ≤ 1 ∧ ul'.length = ul.length ∧ Hid (IsW ul' ∧ ul'.take j = ul.take j ∧ ul'.drop (j + (k + 3)) = ul.drop (j + (k + 3)) ∧ cy = 0 ∧ val ul' + 4294967296 ^ j * (gs * val (vl.take (k + 3))) = val ul + 4294967296 ^ (j + (k + 3)) * (bo + cy)) ∧ Hid (wx.ownsRow base 51 1 (.slice (some ⟨g, 0, none⟩) ul.length cap) ul.length (uCells ul')) ∧ w.grownBy wx (some g))
      case first =>
        --SKIP
        go_wp2_with fail
        clear gua gub guc gvh gv2 hor hte
        go_loopw [9, 10, 83] (fun v9 v10 v83 wx => ∃ (i bo cy : Nat) (ul' : List Nat), i ≤ k + 3 ∧ v83 = .int .i64 i ∧ v9 = .int .u64 bo ∧ v10 = .int .u64 cy ∧ bo ≤ 1 ∧ cy < 4294967296 ∧ ul'.length = ul.length ∧ Hid (IsW ul' ∧ ul'.take j = ul.take j ∧ ul'.drop (j + (k + 3)) = ul.drop (j + (k + 3)) ∧ (i = k + 3 → cy = 0) ∧ val ul' + 4294967296 ^ j * (gs * val (vl.take i)) = val ul + 4294967296 ^ (j + i) * (bo + cy)) ∧ Hid (wx.ownsRow base 51 1 (.slice (some ⟨g, 0, none⟩) ul.length cap) ul.length (uCells ul')) ∧ w.grownBy wx (some g)) (fun _ _ v83 _ => (k + 3) - (intOf v83).toNat)
        case atStart => exact ⟨0, 0, 0, ul, by omega, rfl, rfl, rfl, by omega, by omega, rfl, ⟨HW.out, rfl, rfl, fun h => absurd h (by omega), by simp [val]⟩, HO.out, ⟨rfl, rfl, rfl, Nat.le_refl _, fun _ _ _ => rfl⟩⟩
        case round =>
          obtain ⟨i, bo, cy, ul', hi, rfl, rfl, rfl, hbo, hcy, hl', hI, hO', hgr⟩ := hrel
          by_cases hlt : i < k + 3
          · obtain ⟨g1, g2⟩ := own_at hO'.out (j + i) (by omega)
            obtain ⟨x, hx⟩ : ∃ x, x = ul'[j + i]'(by omega) := ⟨_, rfl⟩
            rw [← hx] at g1
            have hxw : x < 4294967296 := by rw [hx]; exact hI.out.1 _ (List.getElem_mem _)
            have Hx := Lib.hid hx
            clear hx
            by_cases hlt2 : i < k + 2
            · obtain ⟨ad, e, hab, h1⟩ := HV.out.at_ i (by rw [HLv.out]; exact hlt2)
              injection e with e
              subst e
              have g3 : wr.cell? (av.add i) = some (.int .u32 (vl[i]'(by rw [HLv.out]; exact hlt2) : Nat)) := by
                refine (World.cell?_of_block (w := w) ?_).trans h1
                rw [addr_block]
                exact hgr.block _ (Nat.lt_of_lt_of_le hab hbs) (fun e => by injection e with e; omega)
              obtain ⟨y, hy⟩ : ∃ y, y = vl[i]'(by rw [HLv.out]; exact hlt2) := ⟨_, rfl⟩
              rw [← hy] at g3
              have hyw : y < 4294967296 := by rw [hy]; exact HWv.out _ (List.getElem_mem _)
              have Hy := Lib.hid (take_more vl i y (.inl ⟨by rw [HLv.out]; exact hlt2, hy⟩))
              clear hy h1
              obtain ⟨p, hp⟩ : ∃ p, p = gs * y := ⟨_, rfl⟩
              have hpb : p ≤ 18446744065119617025 := by rw [hp]; exact Nat.mul_le_mul hga (by omega : y ≤ 4294967295)
              have hmp : (gs : Int) * (y : Int) = (p : Int) := by rw [hp]; simp
              obtain ⟨tk, htk⟩ : ∃ tk, tk = (cy + p) % 4294967296 + bo := ⟨_, rfl⟩
              have htk2 : ((cy : Int) + (p : Int)) % 4294967296 + (bo : Int) = (tk : Int) := by omega
              have htkb : tk ≤ 4294967296 := by omega
              have HP := Lib.hid hp
              have HTK := Lib.hid htk
              clear hp htk
              by_cases hxt : x < tk
              · have hxt2 : (x : Int) < (tk : Int) := by omega
                --CASE a
                go_wp2
                have hst := off_step (j := j) (i := i) (gs := gs) (d := x + 4294967296 - tk) (bo' := 1) (cy' := (cy + p) / 4294967296) (by omega) Hx.out rfl Hy.out hI.out.2.2.2.2 (by rw [← HP.out]; have := HTK.out; omega)
                obtain ⟨e1, e2, e3⟩ := inv_set (d := x + 4294967296 - tk) (i := j + i) (m := j + (k + 3)) hI.out.1 hI.out.2.1 hI.out.2.2.1 (by omega) (by omega) (by omega)
                exact ⟨⟨i + 1, 1, (cy + p) / 4294967296, ul'.set (j + i) (x + 4294967296 - tk), by omega, by go_num, by go_num, by go_num, by omega, by omega, by simp [hl'], ⟨e1, e2, e3, fun h => absurd h (by omega), hst⟩, own_set hO'.out (j + i) _ _ (by rw [wrap64_mod]; omega), grown_trans hgr (hO'.out.stored (j + i) _).2⟩, by simp [intOf]; omega⟩
                --END a
              · have hxt2 : ¬ (x : Int) < (tk : Int) := by omega
                --CASE b
                go_wp2
                have hst := off_step (j := j) (i := i) (gs := gs) (d := x - tk) (bo' := 0) (cy' := (cy + p) / 4294967296) (by omega) Hx.out rfl Hy.out hI.out.2.2.2.2 (by rw [← HP.out]; have := HTK.out; omega)
                obtain ⟨e1, e2, e3⟩ := inv_set (d := x - tk) (i := j + i) (m := j + (k + 3)) hI.out.1 hI.out.2.1 hI.out.2.2.1 (by omega) (by omega) (by omega)
                exact ⟨⟨i + 1, 0, (cy + p) / 4294967296, ul'.set (j + i) (x - tk), by omega, by go_num, by go_num, by go_num, by omega, by omega, by simp [hl'], ⟨e1, e2, e3, fun h => absurd h (by omega), hst⟩, own_set hO'.out (j + i) _ _ (by omega), grown_trans hgr (hO'.out.stored (j + i) _).2⟩, by simp [intOf]; omega⟩
                --END b
            · have Hy := Lib.hid (take_more vl i 0 (.inr ⟨by rw [HLv.out]; omega, rfl⟩))
              obtain ⟨tk, htk⟩ : ∃ tk, tk = cy + bo := ⟨_, rfl⟩
              have htk2 : (cy : Int) + (bo : Int) = (tk : Int) := by omega
              have htkb : tk ≤ 4294967296 := by omega
              have HTK := Lib.hid htk
              clear htk
              by_cases hxt : x < tk
              · have hxt2 : (x : Int) < (tk : Int) := by omega
                --CASE c
                go_wp2
                have hst := off_step (j := j) (i := i) (gs := gs) (d := x + 4294967296 - tk) (bo' := 1) (cy' := 0) (by omega) Hx.out rfl Hy.out hI.out.2.2.2.2 (by have := HTK.out; simp; omega)
                obtain ⟨e1, e2, e3⟩ := inv_set (d := x + 4294967296 - tk) (i := j + i) (m := j + (k + 3)) hI.out.1 hI.out.2.1 hI.out.2.2.1 (by omega) (by omega) (by omega)
                exact ⟨⟨i + 1, 1, 0, ul'.set (j + i) (x + 4294967296 - tk), by omega, by go_num, by go_num, by go_num, by omega, by omega, by simp [hl'], ⟨e1, e2, e3, fun _ => rfl, hst⟩, own_set hO'.out (j + i) _ _ (by rw [wrap64_mod]; omega), grown_trans hgr (hO'.out.stored (j + i) _).2⟩, by simp [intOf]; omega⟩
                --END c
              · have hxt2 : ¬ (x : Int) < (tk : Int) := by omega
                --CASE d
                go_wp2
                have hst := off_step (j := j) (i := i) (gs := gs) (d := x - tk) (bo' := 0) (cy' := 0) (by omega) Hx.out rfl Hy.out hI.out.2.2.2.2 (by have := HTK.out; simp; omega)
                obtain ⟨e1, e2, e3⟩ := inv_set (d := x - tk) (i := j + i) (m := j + (k + 3)) hI.out.1 hI.out.2.1 hI.out.2.2.1 (by omega) (by omega) (by omega)
                exact ⟨⟨i + 1, 0, 0, ul'.set (j + i) (x - tk), by omega, by go_num, by go_num, by go_num, by omega, by omega, by simp [hl'], ⟨e1, e2, e3, fun _ => rfl, hst⟩, own_set hO'.out (j + i) _ _ (by omega), grown_trans hgr (hO'.out.stored (j + i) _).2⟩, by simp [intOf]; omega⟩
                --END d
          · obtain rfl : i = k + 3 := by omega
            go_wp2
            go_meet
            exact ⟨bo, cy, ul', rfl, rfl, hbo, hl', ⟨hI.out.1, hI.out.2.1, hI.out.2.2.1, hI.out.2.2.2.1 (by first | rfl | trivial), hI.out.2.2.2.2⟩, hO', hgr⟩
        --PIKS
      case rest =>
        obtain ⟨bo, cy, ul', rfl, rfl, hbo, hl', hI, hO', hgr⟩ := hcut
        clear gua gub guc gvh gv2 hor hte
        have hwin := win (k := k + 2) hl' (by omega) hI.out.2.1 hI.out.2.2.2.2
        rw [hI.out.2.2.2.1, Nat.add_zero, List.take_of_length_le (by rw [HLv.out]; omega)] at hwin
        have hVp := HK.out.pos
        by_cases hb0 : bo = 0
        · subst hb0
          obtain ⟨e1, e2⟩ := off_end0 (by rw [← HQ.out]; exact hgb) hVp hwin
          rw [← HQ.out] at e1
          have HE := Lib.hid e1
          have hres : ∃ ul', ul'.length = ul.length ∧ IsW ul' ∧ ul'.take j = ul.take j ∧ val (ul'.drop j) = val (ul.drop j) % val vl ∧ wc.ownsRow base 51 1 (.slice (some ⟨g, 0, none⟩) ul.length cap) ul.length (uCells ul') ∧ w.grownBy wc (some g) := ⟨ul', hl', hI.out.1, hI.out.2.1, e2, hO', hgr⟩
          have HRs := Lib.hid hres
          clear hres e1 e2 hwin
          rw [show (((0 : Nat)) : Int) = 0 from rfl]
          go_wp2
          go_ret
          refine ⟨?_, HRs.out⟩
          rw [HE.out]
          rfl
        · obtain rfl : bo = 1 := by omega
          have hUlt : val (ul.drop j) < 4294967296 ^ (k + 2 + 1) := by
            have h1 := val_lt_len HWv.out (n := k + 2) (by rw [HLv.out]; exact Nat.le_refl _)
            have h2 := HK.out.hUV
            rw [Nat.pow_succ, Nat.mul_comm]
            have h3 : 4294967296 * val vl ≤ 4294967296 * 4294967296 ^ (k + 2) := Nat.mul_le_mul_left _ (Nat.le_of_lt h1)
            omega
          have hU' := win_lt (k := k + 2) hl' (by omega) hI.out.1 hI.out.2.2.1 hUlt
          obtain ⟨e1, e2⟩ := off_end1 (by rw [← HQ.out]; exact hgb) (by rw [← HQ.out]; exact hgc) hwin hU'
          rw [← HQ.out] at e1
          subst e1
          have HE := Lib.hid e2
          have HU := Lib.hid hUlt
          clear e2 hwin hU' hUlt
          rw [show (((1 : Nat)) : Int) = 1 from rfl]
          go_wp2
          go_loopw [14, 131] (fun v14 v131 wx => ∃ (i bk : Nat) (ul2 : List Nat), i ≤ k + 3 ∧ v131 = .int .i64 i ∧ v14 = .int .u64 bk ∧ bk ≤ 1 ∧ ul2.length = ul.length ∧ Hid (IsW ul2 ∧ ul2.take j = ul.take j ∧ ul2.drop (j + (k + 3)) = ul.drop (j + (k + 3)) ∧ val ul2 + 4294967296 ^ (j + i) * bk = val ul' + 4294967296 ^ j * val (vl.take i)) ∧ Hid (wx.ownsRow base 51 1 (.slice (some ⟨g, 0, none⟩) ul.length cap) ul.length (uCells ul2)) ∧ w.grownBy wx (some g)) (fun _ v131 _ => (k + 3) - (intOf v131).toNat)
          case atStart => exact ⟨0, 0, ul', by omega, rfl, rfl, by omega, hl', ⟨hI.out.1, hI.out.2.1, hI.out.2.2.1, by simp [val]⟩, hO', hgr⟩
          case round =>
            obtain ⟨i, bk, ul2, hi, rfl, rfl, hbk, hl2, hI2, hO2, hgr2⟩ := hrel
            by_cases hlt : i < k + 3
            · obtain ⟨g1, g2⟩ := own_at hO2.out (j + i) (by omega)
              obtain ⟨x, hx⟩ : ∃ x, x = ul2[j + i]'(by omega) := ⟨_, rfl⟩
              rw [← hx] at g1
              have hxw : x < 4294967296 := by rw [hx]; exact hI2.out.1 _ (List.getElem_mem _)
              have Hx := Lib.hid hx
              clear hx
              by_cases hlt2 : i < k + 2
              · obtain ⟨ad, e, hab, h1⟩ := HV.out.at_ i (by rw [HLv.out]; exact hlt2)
                injection e with e
                subst e
                have g3 : wr.cell? (av.add i) = some (.int .u32 (vl[i]'(by rw [HLv.out]; exact hlt2) : Nat)) := by
                  refine (World.cell?_of_block (w := w) ?_).trans h1
                  rw [addr_block]
                  exact hgr2.block _ (Nat.lt_of_lt_of_le hab hbs) (fun e => by injection e with e; omega)
                obtain ⟨y, hy⟩ : ∃ y, y = vl[i]'(by rw [HLv.out]; exact hlt2) := ⟨_, rfl⟩
                rw [← hy] at g3
                have hyw : y < 4294967296 := by rw [hy]; exact HWv.out _ (List.getElem_mem _)
                have Hy := Lib.hid (take_more vl i y (.inl ⟨by rw [HLv.out]; exact hlt2, hy⟩))
                clear hy h1
                go_wp2
                have hst := back_step (j := j) (i := i) (t := bk + x + y) (by omega) Hx.out rfl Hy.out hI2.out.2.2.2 rfl
                obtain ⟨e1, e2, e3⟩ := inv_set (d := (bk + x + y) % 4294967296) (i := j + i) (m := j + (k + 3)) hI2.out.1 hI2.out.2.1 hI2.out.2.2.1 (by omega) (by omega) (by omega)
                exact ⟨⟨i + 1, (bk + x + y) / 4294967296, ul2.set (j + i) ((bk + x + y) % 4294967296), by omega, by go_num, by go_num, by omega, by simp [hl2], ⟨e1, e2, e3, hst⟩, own_set hO2.out (j + i) _ _ (by omega), grown_trans hgr2 (hO2.out.stored (j + i) _).2⟩, by simp [intOf]; omega⟩
              · have Hy := Lib.hid (take_more vl i 0 (.inr ⟨by rw [HLv.out]; omega, rfl⟩))
                go_wp2
                have hst := back_step (j := j) (i := i) (t := bk + x + 0) (by omega) Hx.out rfl Hy.out hI2.out.2.2.2 rfl
                obtain ⟨e1, e2, e3⟩ := inv_set (d := (bk + x + 0) % 4294967296) (i := j + i) (m := j + (k + 3)) hI2.out.1 hI2.out.2.1 hI2.out.2.2.1 (by omega) (by omega) (by omega)
                exact ⟨⟨i + 1, (bk + x + 0) / 4294967296, ul2.set (j + i) ((bk + x + 0) % 4294967296), by omega, by go_num, by go_num, by omega, by simp [hl2], ⟨e1, e2, e3, hst⟩, own_set hO2.out (j + i) _ _ (by omega), grown_trans hgr2 (hO2.out.stored (j + i) _).2⟩, by simp [intOf]; omega⟩
            · obtain rfl : i = k + 3 := by omega
              have hwin2 := win (k := k + 2) (ul := ul2) (ul' := ul') (by omega) (by omega) (by rw [hI2.out.2.1, hI.out.2.1]) hI2.out.2.2.2.symm
              rw [List.take_of_length_le (by rw [HLv.out]; omega), HE.out] at hwin2
              have hU2 := win_lt (k := k + 2) hl2 (by omega) hI2.out.1 hI2.out.2.2.1 HU.out
              have hVM : val vl < 4294967296 ^ (k + 2 + 1) := val_lt_len HWv.out (by rw [HLv.out]; omega)
              have hfin := back_end hwin2.symm (Nat.mod_lt _ hVp) hVM hU2
              have hres : ∃ ul', ul'.length = ul.length ∧ IsW ul' ∧ ul'.take j = ul.take j ∧ val (ul'.drop j) = val (ul.drop j) % val vl ∧ wr.ownsRow base 51 1 (.slice (some ⟨g, 0, none⟩) ul.length cap) ul.length (uCells ul') ∧ w.grownBy wr (some g) := ⟨ul2, hl2, hI2.out.1, hI2.out.2.1, hfin, hO2, hgr2⟩
              have HRs := Lib.hid hres
              clear hres hwin2 hU2 hVM hfin
              go_wp2
              go_ret
              refine ⟨?_, HRs.out⟩
              simp [go_sem]
end Go.Proofs.YtjbdadhggejoiaaGreatDoor
