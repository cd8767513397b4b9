/- 'trim' takes noughts off the end; 'cmp' compares.
   'cmp' compares two numbers.
   'add' is the sum of two numbers.
   'sub' is the difference of two numbers.
   'small' is a number of one word or two; 'bitLen', 'zeros'.
   cuspref02: 'trim' takes noughts off the end; 'order' compares. -/
import Derived.Test.YtjbdadhggejoiaaGreatDoorM02
import Derived.Test.YtjbdadhggejoiaaGreatDoorM03

namespace Go.Proofs.YtjbdadhggejoiaaGreatDoor
open Go.RowKit
set_option maxRecDepth 100000

def slLen : Value → Nat | .slice _ n _ => n | _ => 0
/-- a word in a cell -/
def U (x : Nat) : Value := .int .u32 (x : Int)
def uCells (l : List Nat) : List Value := l.map U
theorem uCells_len (l : List Nat) : (uCells l).length = l.length := List.length_map ..
/-- '.slice A l.length _' reads as the words l. -/
def Ws (w : World) (B : Nat) (A : Option Addr) (l : List Nat) : Prop := Rds w B 1 A l.length (uCells l)
section
variable {w w' : World} {B B' : Nat} {A : Option Addr} {l : List Nat}
theorem Ws.at_ (h : Ws w B A l) (i : Nat) (hi : i < l.length) : ∃ ad, A = some ad ∧ ad.block < B ∧ w.cell? (ad.add i) = some (.int .u32 (l[i] : Nat)) := by
  obtain ⟨ad, e, hb, hc⟩ := h.2 (by omega)
  exact ⟨ad, e, hb, hc i _ (by rw [uCells, List.getElem?_map, List.getElem?_eq_getElem hi]; rfl)⟩
theorem Ws.below (h : Ws w B A l) {C : Nat} (hb : Below C w w') (hC : B ≤ C) : Ws w' B A l := Rds.below h hb hC
theorem Ws.more (h : Ws w B A l) (hB : B ≤ B') : Ws w B' A l := Rds.more h hB
theorem Ws.nil : Ws w B A [] := Rds.zero
theorem Ws.take (h : Ws w B A l) (k : Nat) (hk : k ≤ l.length) : Ws w B A (l.take k) := by
  refine ⟨by rw [uCells_len]; omega, fun h0 => ?_⟩
  rw [List.length_take] at h0
  obtain ⟨ad, e, hb, hc⟩ := h.2 (by omega)
  refine ⟨ad, e, hb, fun j u hu => hc j u ?_⟩
  rw [uCells, List.map_take, List.getElem?_take] at hu
  split at hu
  · exact hu
  · cases hu
end

set_option maxHeartbeats 4000000 in
theorem trim_calls (A : Option Addr) (c B : Nat) (l : List Nat) (w : World) (hc : l.length ≤ c) (hl : l.length ≤ 140737488351232) (hw : IsW l) (h : Ws w B A l) :
    Calls Tryz.prog 138 #[.slice A l.length c] w fun e w' => e = .returned (.slice A (words (val l)).length c) ∧ Ws w B A (words (val l)) ∧ (words (val l)).length ≤ c ∧ w' = w := by
  have HH := Lib.hid h; have HW := Lib.hid hw
  clear h hw
  go_enter Tryz.func138, Tryz.ntmps138
  go_wp2
  go_loopw [0] (fun v0 wr => ∃ k : Nat, k ≤ l.length ∧ v0 = .slice A k c ∧ Hid (∀ i (h : i < l.length), k ≤ i → l[i] = 0) ∧ w = wr) (fun v _ => slLen v)
  case atStart => exact ⟨l.length, Nat.le_refl _, rfl, fun i h1 h2 => absurd h1 (by omega), rfl⟩
  case round =>
    obtain ⟨k, hk, rfl, hZ, rfl⟩ := hrel
    by_cases h0 : k = 0
    · subst h0
      have e := take_words HW.out (Nat.zero_le _) hZ.out (fun h => absurd h (by omega))
      have hw2 : Ws w B A (words (val l)) := by rw [← e]; exact HH.out.take 0 (by omega)
      have el : (words (val l)).length = 0 := by rw [← e]; rfl
      have H2 := Lib.hid hw2
      clear hw2 e
      go_wp2
      go_ret
      exact ⟨by rw [el]; rfl, H2.out, by omega, rfl⟩
    · have hk0 : 0 < k := by omega
      obtain ⟨ad, rfl, hab, hc1⟩ := HH.out.at_ (k - 1) (by omega)
      obtain ⟨x, hx⟩ : ∃ x, x = l[k - 1] := ⟨_, rfl⟩
      rw [← hx] at hc1
      have HX := Lib.hid hx
      clear hx
      by_cases hx0 : x = 0
      · subst hx0
        have hz : ((k : Int) - 1) = ((k - 1 : Nat) : Int) := by omega
        go_wp2
        go_roundw
        case rel =>
          have hz2 : Hid (∀ i (h : i < l.length), k - 1 ≤ i → l[i] = 0) := fun i h1 h2 => by
            by_cases e : i = k - 1
            · subst e; exact HX.out.symm
            · exact hZ.out i h1 (by omega)
          exact ⟨k - 1, by omega, by go_num, hz2, by first | rfl | trivial⟩
        case measure => simp [slLen]; omega
      · have hx1 : ((x : Int) == 0) = false := by rw [beq_eq_false_iff_ne]; omega
        have e := take_words HW.out hk hZ.out (fun _ => by rw [← HX.out]; exact hx0)
        have hw2 : Ws w B (some ad) (words (val l)) := by rw [← e]; exact HH.out.take k hk
        have el : (words (val l)).length = k := by rw [← e, List.length_take]; omega
        have H2 := Lib.hid hw2
        clear hw2 e
        go_wp2
        go_ret
        exact ⟨by rw [el]; rfl, H2.out, by omega, rfl⟩
end Go.Proofs.YtjbdadhggejoiaaGreatDoor

namespace Go.Proofs.YtjbdadhggejoiaaGreatDoor
open Go.RowKit
set_option maxRecDepth 100000

theorem ret_int {a b : Int} (h : a = b) : Ending.returned (.int .i64 a) = .returned (.int .i64 b) := by rw [h]
theorem cmp_lt {n m : Nat} (h : n < m) : -1 = cmpI n m := (if_pos h).symm
theorem cmp_gt {n m : Nat} (h : m < n) : 1 = cmpI n m := by rw [cmpI, if_neg (by omega), if_neg (by omega)]
theorem cmp_eq {n m : Nat} (h : n = m) : 0 = cmpI n m := by rw [cmpI, if_neg (by omega), if_pos h]

set_option maxHeartbeats 4000000 in
theorem ncmp_calls (A A2 : Option Addr) (c c2 B B2 n m : Nat) (w : World) (hl : (words n).length ≤ 140737488351232) (hl2 : (words m).length ≤ 140737488351232) (h : Ws w B A (words n)) (h2 : Ws w B2 A2 (words m)) :
    Calls Tryz.prog 136 #[.slice A (words n).length c, .slice A2 (words m).length c2] w fun e w' => e = .returned (.int .i64 (cmpI n m)) ∧ ∃ q, w' = w.drewN q := by
  have HH := Lib.hid h; have H2 := Lib.hid h2
  clear h h2
  by_cases hlen : (words n).length = (words m).length
  · obtain ⟨k0, hk0⟩ : ∃ k0, k0 = (words n).length := ⟨_, rfl⟩
    rw [← hk0] at hlen
    have Hk := Lib.hid hk0; have Hk2 := Lib.hid hlen
    rw [← hk0, ← hlen]
    rw [← hk0] at hl
    clear hk0 hlen hl2
    go_enter Tryz.func136, Tryz.ntmps136
    go_wp2
    go_loopw [5] (fun i wr => ∃ k : Nat, k ≤ k0 ∧ i = .int .i64 ((k : Int) - 1) ∧ Hid ((words n).drop k = (words m).drop k) ∧ ∃ q, wr = w.drewN q) (fun i _ => (intOf i + 1).toNat)
    case atStart => exact ⟨k0, Nat.le_refl _, rfl, (show _ = _ by rw [List.drop_of_length_le (by rw [Hk.out]; exact Nat.le_refl _), List.drop_of_length_le (by rw [← Hk2.out]; exact Nat.le_refl _)]), 0, rfl⟩
    case round =>
      obtain ⟨k, hk, rfl, hD, q, rfl⟩ := hrel
      by_cases hp : 0 < k
      · obtain ⟨j, rfl⟩ : ∃ j, k = j + 1 := ⟨k - 1, by omega⟩
        have hj : (((j + 1 : Nat) : Int) - 1) = (j : Int) := by omega
        rw [hj]
        clear hj
        have hja : j < (words n).length := by have := Hk.out; omega
        have hjb : j < (words m).length := by have := Hk2.out; omega
        obtain ⟨ada, rfl, _, g0⟩ := HH.out.at_ j hja
        obtain ⟨adb, rfl, _, g1⟩ := H2.out.at_ j hjb
        obtain ⟨x, hx⟩ : ∃ x, x = (words n)[j] := ⟨_, rfl⟩
        obtain ⟨y, hy⟩ : ∃ y, y = (words m)[j] := ⟨_, rfl⟩
        rw [← hx] at g0
        rw [← hy] at g1
        have Hx := Lib.hid hx; have Hy := Lib.hid hy
        clear hx hy
        by_cases e1 : x = y
        · subst e1
          go_wp2
          go_quiet (fail)
          go_wp2
          go_roundw
          case rel => exact ⟨j, by omega, by go_num, (show _ = _ by rw [List.drop_eq_getElem_cons hja, List.drop_eq_getElem_cons hjb, ← Hx.out, ← Hy.out, hD.out]), _, rfl⟩
          case measure => simp [intOf]
        · have e2 : ¬ (x : Int) = (y : Int) := by omega
          by_cases hlt : x < y
          · have hi : (x : Int) < (y : Int) := by omega
            have hv := val_lt_at (words_isW n) hja hjb hD.out (by rw [← Hx.out, ← Hy.out]; exact hlt)
            rw [val_words, val_words] at hv
            have HV := Lib.hid hv
            clear hv hlt e1
            go_wp2
            go_quiet (fail)
            go_wp2
            go_quiet (fail)
            go_wp2
            go_ret
            exact ⟨ret_int (cmp_lt HV.out), _, by simp only [World.drewN_drewN]; rfl⟩
          · have hi : ¬ (x : Int) < (y : Int) := by omega
            have hv := val_lt_at (words_isW m) hjb hja hD.out.symm (by rw [← Hx.out, ← Hy.out]; omega)
            rw [val_words, val_words] at hv
            have HV := Lib.hid hv
            clear hv hlt e1
            go_wp2
            go_quiet (fail)
            go_wp2
            go_quiet (fail)
            go_wp2
            go_ret
            exact ⟨ret_int (cmp_gt HV.out), _, by simp only [World.drewN_drewN]; rfl⟩
      · obtain rfl : k = 0 := by omega
        have hv : n = m := by
          have := hD.out
          rw [List.drop_zero, List.drop_zero] at this
          rw [← val_words n, this, val_words]
        have HV := Lib.hid hv
        clear hv
        go_wp2
        go_ret
        exact ⟨ret_int (cmp_eq HV.out), _, rfl⟩
  · by_cases hlt : (words n).length < (words m).length
    · have hv := words_lt hlt
      have HV := Lib.hid hv
      clear hv
      go_enter Tryz.func136, Tryz.ntmps136
      go_wp2
      go_ret
      exact ⟨ret_int (cmp_lt HV.out), 0, rfl⟩
    · have hv := words_lt (n := m) (m := n) (by omega)
      have HV := Lib.hid hv
      clear hv
      go_enter Tryz.func136, Tryz.ntmps136
      go_wp2
      go_ret
      exact ⟨ret_int (cmp_gt HV.out), 0, rfl⟩
end Go.Proofs.YtjbdadhggejoiaaGreatDoor

namespace Go.Proofs.YtjbdadhggejoiaaGreatDoor
open Go.RowKit
set_option maxRecDepth 100000

theorem wordInfo : (Tryz.prog.info? 51).map (fun i => (i.zero, i.size, i.bytes)) = some (some (.int .u32 0), 1, 4) := by kernel_rfl

/-- What a call leaves that makes the number n. -/
def NDone (w : World) (n : Nat) (e : Ending) (w' : World) : Prop := ∃ A c, e = .returned (.slice A (words n).length c) ∧ (words n).length ≤ c ∧ c ≤ maxLen ∧ Ws w' w'.heap.size A (words n) ∧ Below w.heap.size w w'

theorem u_snoc {w : World} {base : Nat} {e : TypeId} {size : Nat} {v : Value} {n : Nat} {out : List Nat} {x : Int} {d : Nat} (h : w.ownsRow base e size v n (uCells out ++ [.int .u32 x])) (hx : x = (d : Int)) : Hid (w.ownsRow base e size v n (uCells (out ++ [d]))) := by
  subst hx
  have : uCells (out ++ [d]) = uCells out ++ [.int .u32 (d : Int)] := by simp [uCells, U]
  rw [this]
  exact h
theorem below_app0 {B : Nat} {w wr w3 : World} {o : Obj} {row : Option Nat} (h : Below B w wr) (hg : (wr.alloc o).grownBy w3 row) (hB : B ≤ wr.heap.size) (hr : ∀ k, row = some k → B ≤ k) : Below B w w3 :=
  (h.alloc hB o).grown hg (by simp; omega) hr
theorem own_slice1 {w : World} {base : Nat} {e : TypeId} {sz : Nat} {v : Value} {n : Nat} {xs : List Value} (h : w.ownsRow base e sz v n xs) : ∃ X c, v = .slice X n c ∧ n ≤ c ∧ c ≤ maxLen ∧ Rds w w.heap.size sz X n xs := by
  rcases h.2 with ⟨rfl, rfl⟩ | ⟨g, cap, cur, rfl, _, _, hc, hm, _⟩
  · exact ⟨_, _, rfl, Nat.le_refl _, Nat.zero_le _, Rds.own h⟩
  · exact ⟨_, _, rfl, hc, hm, Rds.own h⟩
theorem NDone.of {w w' : World} {base : Nat} {e : TypeId} {v : Value} {out : List Nat} {k n : Nat} (h : w'.ownsRow base e 1 v k (uCells out)) (hk : out.length = k) (hc : Canon out) (hn : val out = n) (hb : Below w.heap.size w w') : NDone w n (.returned v) w' := by
  obtain ⟨X, c, rfl, h1, h2, h3⟩ := own_slice1 h
  subst hk
  have e : words n = out := by rw [← hn, canon_words hc]
  exact ⟨X, c, by rw [e], by rw [e]; exact h1, h2, by rw [e]; exact h3, hb⟩

set_option maxHeartbeats 4000000 in
theorem nadd_long (A A2 : Option Addr) (c c2 n m : Nat) (w : World) (hc : (words n).length ≤ c) (hc2 : (words m).length ≤ c2) (hl : (words n).length ≤ 1073741824) (hle : (words m).length ≤ (words n).length) (h : Ws w w.heap.size A (words n)) (h2 : Ws w w.heap.size A2 (words m)) :
    Calls Tryz.prog 147 #[.slice A (words n).length c, .slice A2 (words m).length c2] w fun e w' => NDone w (n + m) e w' := by
  obtain ⟨i0, hi0, hz0, hz1, hz2⟩ := info_parts wordInfo
  have HH := Lib.hid h; have H2 := Lib.hid h2
  clear h h2
  obtain ⟨l, hln⟩ : ∃ l, l = words n := ⟨_, rfl⟩
  obtain ⟨r, hrm⟩ : ∃ r, r = words m := ⟨_, rfl⟩
  rw [← hln] at HH hl hle hc ⊢
  rw [← hrm] at H2 hle hc2 ⊢
  have Hl := Lib.hid hln; have Hr := Lib.hid hrm
  clear hln hrm
  have hnlt : ¬ (l.length < r.length) := by omega
  go_enter Tryz.func147, Tryz.ntmps147
  go_wp2_with (first
    | (at_make; refine wpList_make_own _ (by rfl) _ _ 104 (by rfl) w.heap.size 51 i0 (.int .u32 0) 1 Tryz.underlying104 hi0 hz0 hz1 .i64 .i64 _ (l.length + 1) (by rfl) (by rfl) (by omega) (by rw [hz2]; omega) (by unfold maxLen; omega) (Nat.le_refl _) ?_; intro w0 hown0 hgrow0))
  go_loopw [5, 6, 22] (fun v5 v6 i wr => ∃ (k cy : Nat) (out : List Nat), k ≤ l.length ∧ i = .int .i64 k ∧ v6 = .int .u64 cy ∧ cy ≤ 1 ∧ Hid (wr.ownsRow w.heap.size 51 1 v5 k (uCells out)) ∧ out.length = k ∧ Hid (IsW out ∧ val out + 4294967296 ^ k * cy = val (l.take k) + val (r.take k)) ∧ Below w.heap.size w wr) (fun _ _ i _ => l.length - (intOf i).toNat)
  case atStart => exact ⟨0, 0, [], by omega, rfl, rfl, by omega, hown0, rfl, ⟨fun x hx => (by cases hx), by simp [val]⟩, (Below.refl _ _).grown hgrow0 (Nat.le_refl _) (fun k h => by cases h)⟩
  case round =>
    clear hown0 hgrow0
    obtain ⟨k, cy, out, hk, rfl, rfl, hcy, hO, hol, hV, hb⟩ := hrel
    by_cases hlt : k < l.length
    · obtain ⟨ad, rfl, hab, h1⟩ := HH.out.at_ k hlt
      have g1 : wr.cell? (ad.add k) = some (.int .u32 (l[k] : Nat)) := (hb.cell (by rw [addr_block]; exact hab)).trans h1
      obtain ⟨x, hx⟩ : ∃ x, x = l[k] := ⟨_, rfl⟩
      rw [← hx] at g1
      have hxw : x < 4294967296 := by rw [hx]; have := words_isW n; rw [← Hl.out] at this; exact this _ (List.getElem_mem hlt)
      have Hx := Lib.hid hx
      clear hx h1
      by_cases hr : k < r.length
      · obtain ⟨ad2, rfl, hab2, h2⟩ := H2.out.at_ k hr
        have g2 : wr.cell? (ad2.add k) = some (.int .u32 (r[k] : Nat)) := (hb.cell (by rw [addr_block]; exact hab2)).trans h2
        obtain ⟨y, hy⟩ : ∃ y, y = r[k] := ⟨_, rfl⟩
        rw [← hy] at g2
        have hyw : y < 4294967296 := by rw [hy]; have := words_isW m; rw [← Hr.out] at this; exact this _ (List.getElem_mem hr)
        have Hy := Lib.hid hy
        clear hy h2
        go_wp2_with (at_builtin; (refine wpList_append_own_at _ (by rfl) (.tmp 42) (.tmp 45) 104 (by rfl) w.heap.size 51 i0 _ 1 4 Tryz.underlying104 hi0 hz0 hz1 hz2 rfl (by omega) _ k (uCells out) (by rfl) (hO.out.alloc _) ⟨wr.heap.size, 0, none⟩ 1 1 [.int .u32 ((↑cy + ↑x + ↑y) % 4294967296)] (by rfl) (by rfl) (news_next #[.int .u32 ((↑cy + ↑x + ↑y) % 4294967296)] 51 (by simp)) (by simp [Value.oneCell']) (by simp only [maxLen]; omega) (by omega) (by simp; have := hb.size; omega) ?_); intro v3 w3 hown1 hgrow hnil hat)
        go_roundw
        case rel =>
          have hs := add_step (x := x) (y := y) hlt Hx.out (.inl ⟨hr, Hy.out⟩) hol hV.out
          exact ⟨k + 1, (cy + x + y) / 4294967296, out ++ [(cy + x + y) % 4294967296], by omega, by go_num, by go_num, by omega, u_snoc hown1 (by omega), by simp [hol], hs, below_app0 hb hgrow hb.size (fun k hk => (hO.out.lt _ hk).1)⟩
        case measure => simp [intOf]; omega
      · go_wp2_with (at_builtin; (refine wpList_append_own_at _ (by rfl) (.tmp 42) (.tmp 45) 104 (by rfl) w.heap.size 51 i0 _ 1 4 Tryz.underlying104 hi0 hz0 hz1 hz2 rfl (by omega) _ k (uCells out) (by rfl) (hO.out.alloc _) ⟨wr.heap.size, 0, none⟩ 1 1 [.int .u32 ((↑cy + ↑x) % 4294967296)] (by rfl) (by rfl) (news_next #[.int .u32 ((↑cy + ↑x) % 4294967296)] 51 (by simp)) (by simp [Value.oneCell']) (by simp only [maxLen]; omega) (by omega) (by simp; have := hb.size; omega) ?_); intro v3 w3 hown1 hgrow hnil hat)
        go_roundw
        case rel =>
          have hs := add_step (x := x) (y := 0) hlt Hx.out (.inr ⟨by omega, rfl⟩) hol hV.out
          rw [Nat.add_zero] at hs
          exact ⟨k + 1, (cy + x) / 4294967296, out ++ [(cy + x) % 4294967296], by omega, by go_num, by go_num, by omega, u_snoc hown1 (by omega), by simp [hol], hs, below_app0 hb hgrow hb.size (fun k hk => (hO.out.lt _ hk).1)⟩
        case measure => simp [intOf]; omega
    · obtain rfl : k = l.length := by omega
      by_cases hc0 : cy = 0
      · subst hc0
        have hd : NDone w (n + m) (.returned u5) wr := NDone.of hO.out hol (canon_big hV.out.1 fun hne => ?_) ?_ hb
        · have HD := Lib.hid hd
          clear hd
          go_wp2
          go_ret
          exact HD.out
        · have h1 := hV.out.2
          rw [List.take_length] at h1
          have h2 := val_ge (by rw [Hl.out]; exact canon_of n : Canon l) (fun e => by rw [e] at hol; exact hne (List.eq_nil_of_length_eq_zero hol))
          rw [hol]
          omega
        · have h1 := hV.out.2
          rw [List.take_length, List.take_of_length_le hle, Hl.out, Hr.out, val_words, val_words] at h1
          omega
      · obtain rfl : cy = 1 := by omega
        go_wp2_with (at_builtin; (refine wpList_append_own_at _ (by rfl) (.tmp 52) (.tmp 55) 104 (by rfl) w.heap.size 51 i0 _ 1 4 Tryz.underlying104 hi0 hz0 hz1 hz2 rfl (by omega) _ l.length (uCells out) (by rfl) (hO.out.alloc _) ⟨wr.heap.size, 0, none⟩ 1 1 [.int .u32 1] (by rfl) (by rfl) (news_next #[.int .u32 1] 51 (by simp)) (by simp [Value.oneCell']) (by simp only [maxLen]; omega) (by omega) (by simp; have := hb.size; omega) ?_); intro v3 w3 hown1 hgrow hnil hat)
        go_ret
        refine NDone.of (u_snoc (d := 1) hown1 rfl) (by simp [hol]) (canon_big (hV.out.1.snoc (by decide)) fun _ => ?_) ?_ (below_app0 hb hgrow hb.size (fun k hk => (hO.out.lt _ hk).1))
        · rw [val_snoc, List.length_append, List.length_singleton, Nat.add_sub_cancel]
          omega
        · have h1 := hV.out.2
          rw [List.take_length, List.take_of_length_le hle, Hl.out, Hr.out, val_words, val_words] at h1
          rw [val_snoc, hol]
          rw [Hl.out]
          omega
set_option maxHeartbeats 4000000 in
theorem nadd_short (A A2 : Option Addr) (c c2 n m : Nat) (w : World) (hc : (words n).length ≤ c) (hc2 : (words m).length ≤ c2) (hl : (words n).length ≤ 1073741824) (hlt0 : (words m).length < (words n).length) (h : Ws w w.heap.size A (words n)) (h2 : Ws w w.heap.size A2 (words m)) :
    Calls Tryz.prog 147 #[.slice A2 (words m).length c2, .slice A (words n).length c] w fun e w' => NDone w (n + m) e w' := by
  obtain ⟨i0, hi0, hz0, hz1, hz2⟩ := info_parts wordInfo
  have HH := Lib.hid h; have H2 := Lib.hid h2
  clear h h2
  obtain ⟨l, hln⟩ : ∃ l, l = words n := ⟨_, rfl⟩
  obtain ⟨r, hrm⟩ : ∃ r, r = words m := ⟨_, rfl⟩
  rw [← hln] at HH hl hlt0 hc ⊢
  rw [← hrm] at H2 hlt0 hc2 ⊢
  have Hl := Lib.hid hln; have Hr := Lib.hid hrm
  clear hln hrm
  have hle : r.length ≤ l.length := by omega
  go_enter Tryz.func147, Tryz.ntmps147
  go_wp2_with (first
    | (at_make; refine wpList_make_own _ (by rfl) _ _ 104 (by rfl) w.heap.size 51 i0 (.int .u32 0) 1 Tryz.underlying104 hi0 hz0 hz1 .i64 .i64 _ (l.length + 1) (by rfl) (by rfl) (by omega) (by rw [hz2]; omega) (by unfold maxLen; omega) (Nat.le_refl _) ?_; intro w0 hown0 hgrow0))
  go_loopw [5, 6, 22] (fun v5 v6 i wr => ∃ (k cy : Nat) (out : List Nat), k ≤ l.length ∧ i = .int .i64 k ∧ v6 = .int .u64 cy ∧ cy ≤ 1 ∧ Hid (wr.ownsRow w.heap.size 51 1 v5 k (uCells out)) ∧ out.length = k ∧ Hid (IsW out ∧ val out + 4294967296 ^ k * cy = val (l.take k) + val (r.take k)) ∧ Below w.heap.size w wr) (fun _ _ i _ => l.length - (intOf i).toNat)
  case atStart => exact ⟨0, 0, [], by omega, rfl, rfl, by omega, hown0, rfl, ⟨fun x hx => (by cases hx), by simp [val]⟩, (Below.refl _ _).grown hgrow0 (Nat.le_refl _) (fun k h => by cases h)⟩
  case round =>
    clear hown0 hgrow0
    obtain ⟨k, cy, out, hk, rfl, rfl, hcy, hO, hol, hV, hb⟩ := hrel
    by_cases hlt : k < l.length
    · obtain ⟨ad, rfl, hab, h1⟩ := HH.out.at_ k hlt
      have g1 : wr.cell? (ad.add k) = some (.int .u32 (l[k] : Nat)) := (hb.cell (by rw [addr_block]; exact hab)).trans h1
      obtain ⟨x, hx⟩ : ∃ x, x = l[k] := ⟨_, rfl⟩
      rw [← hx] at g1
      have hxw : x < 4294967296 := by rw [hx]; have := words_isW n; rw [← Hl.out] at this; exact this _ (List.getElem_mem hlt)
      have Hx := Lib.hid hx
      clear hx h1
      by_cases hr : k < r.length
      · obtain ⟨ad2, rfl, hab2, h2⟩ := H2.out.at_ k hr
        have g2 : wr.cell? (ad2.add k) = some (.int .u32 (r[k] : Nat)) := (hb.cell (by rw [addr_block]; exact hab2)).trans h2
        obtain ⟨y, hy⟩ : ∃ y, y = r[k] := ⟨_, rfl⟩
        rw [← hy] at g2
        have hyw : y < 4294967296 := by rw [hy]; have := words_isW m; rw [← Hr.out] at this; exact this _ (List.getElem_mem hr)
        have Hy := Lib.hid hy
        clear hy h2
        go_wp2_with (at_builtin; (refine wpList_append_own_at _ (by rfl) (.tmp 42) (.tmp 45) 104 (by rfl) w.heap.size 51 i0 _ 1 4 Tryz.underlying104 hi0 hz0 hz1 hz2 rfl (by omega) _ k (uCells out) (by rfl) (hO.out.alloc _) ⟨wr.heap.size, 0, none⟩ 1 1 [.int .u32 ((↑cy + ↑x + ↑y) % 4294967296)] (by rfl) (by rfl) (news_next #[.int .u32 ((↑cy + ↑x + ↑y) % 4294967296)] 51 (by simp)) (by simp [Value.oneCell']) (by simp only [maxLen]; omega) (by omega) (by simp; have := hb.size; omega) ?_); intro v3 w3 hown1 hgrow hnil hat)
        go_roundw
        case rel =>
          have hs := add_step (x := x) (y := y) hlt Hx.out (.inl ⟨hr, Hy.out⟩) hol hV.out
          exact ⟨k + 1, (cy + x + y) / 4294967296, out ++ [(cy + x + y) % 4294967296], by omega, by go_num, by go_num, by omega, u_snoc hown1 (by omega), by simp [hol], hs, below_app0 hb hgrow hb.size (fun k hk => (hO.out.lt _ hk).1)⟩
        case measure => simp [intOf]; omega
      · go_wp2_with (at_builtin; (refine wpList_append_own_at _ (by rfl) (.tmp 42) (.tmp 45) 104 (by rfl) w.heap.size 51 i0 _ 1 4 Tryz.underlying104 hi0 hz0 hz1 hz2 rfl (by omega) _ k (uCells out) (by rfl) (hO.out.alloc _) ⟨wr.heap.size, 0, none⟩ 1 1 [.int .u32 ((↑cy + ↑x) % 4294967296)] (by rfl) (by rfl) (news_next #[.int .u32 ((↑cy + ↑x) % 4294967296)] 51 (by simp)) (by simp [Value.oneCell']) (by simp only [maxLen]; omega) (by omega) (by simp; have := hb.size; omega) ?_); intro v3 w3 hown1 hgrow hnil hat)
        go_roundw
        case rel =>
          have hs := add_step (x := x) (y := 0) hlt Hx.out (.inr ⟨by omega, rfl⟩) hol hV.out
          rw [Nat.add_zero] at hs
          exact ⟨k + 1, (cy + x) / 4294967296, out ++ [(cy + x) % 4294967296], by omega, by go_num, by go_num, by omega, u_snoc hown1 (by omega), by simp [hol], hs, below_app0 hb hgrow hb.size (fun k hk => (hO.out.lt _ hk).1)⟩
        case measure => simp [intOf]; omega
    · obtain rfl : k = l.length := by omega
      by_cases hc0 : cy = 0
      · subst hc0
        have hd : NDone w (n + m) (.returned u5) wr := NDone.of hO.out hol (canon_big hV.out.1 fun hne => ?_) ?_ hb
        · have HD := Lib.hid hd
          clear hd
          go_wp2
          go_ret
          exact HD.out
        · have h1 := hV.out.2
          rw [List.take_length] at h1
          have h2 := val_ge (by rw [Hl.out]; exact canon_of n : Canon l) (fun e => by rw [e] at hol; exact hne (List.eq_nil_of_length_eq_zero hol))
          rw [hol]
          omega
        · have h1 := hV.out.2
          rw [List.take_length, List.take_of_length_le hle, Hl.out, Hr.out, val_words, val_words] at h1
          omega
      · obtain rfl : cy = 1 := by omega
        go_wp2_with (at_builtin; (refine wpList_append_own_at _ (by rfl) (.tmp 52) (.tmp 55) 104 (by rfl) w.heap.size 51 i0 _ 1 4 Tryz.underlying104 hi0 hz0 hz1 hz2 rfl (by omega) _ l.length (uCells out) (by rfl) (hO.out.alloc _) ⟨wr.heap.size, 0, none⟩ 1 1 [.int .u32 1] (by rfl) (by rfl) (news_next #[.int .u32 1] 51 (by simp)) (by simp [Value.oneCell']) (by simp only [maxLen]; omega) (by omega) (by simp; have := hb.size; omega) ?_); intro v3 w3 hown1 hgrow hnil hat)
        go_ret
        refine NDone.of (u_snoc (d := 1) hown1 rfl) (by simp [hol]) (canon_big (hV.out.1.snoc (by decide)) fun _ => ?_) ?_ (below_app0 hb hgrow hb.size (fun k hk => (hO.out.lt _ hk).1))
        · rw [val_snoc, List.length_append, List.length_singleton, Nat.add_sub_cancel]
          omega
        · have h1 := hV.out.2
          rw [List.take_length, List.take_of_length_le hle, Hl.out, Hr.out, val_words, val_words] at h1
          rw [val_snoc, hol]
          rw [Hl.out]
          omega
theorem nadd_calls (A A2 : Option Addr) (c c2 n m : Nat) (w : World) (hc : (words n).length ≤ c) (hc2 : (words m).length ≤ c2) (hl : (words n).length ≤ 1073741824) (hl2 : (words m).length ≤ 1073741824) (h : Ws w w.heap.size A (words n)) (h2 : Ws w w.heap.size A2 (words m)) :
    Calls Tryz.prog 147 #[.slice A (words n).length c, .slice A2 (words m).length c2] w fun e w' => NDone w (n + m) e w' := by
  by_cases hle : (words m).length ≤ (words n).length
  · exact nadd_long A A2 c c2 n m w hc hc2 hl hle h h2
  · have := nadd_short A2 A c2 c m n w hc2 hc hl2 (by omega) h2 h
    rwa [Nat.add_comm] at this
end Go.Proofs.YtjbdadhggejoiaaGreatDoor

namespace Go.Proofs.YtjbdadhggejoiaaGreatDoor
open Go.RowKit
set_option maxRecDepth 100000

theorem wrap64_mod (z : Int) : IntKind.u64.wrap z % 4294967296 = z % 4294967296 := by
  have e : IntKind.u64.wrap z = z % 18446744073709551616 := by rfl
  rw [e]
  omega
theorem sub_step {l r out : List Nat} {k b x y : Nat} (hk : k < l.length) (hx : x = l[k]) (hxw : x < 4294967296) (hyw : y < 4294967296) (hb : b ≤ 1) (hy : (∃ h : k < r.length, y = r[k]) ∨ (r.length ≤ k ∧ y = 0)) (hout : out.length = k)
    (hV : IsW out ∧ val out + val (r.take k) = val (l.take k) + 4294967296 ^ k * b) (d c : Nat) (hd : d < 4294967296) (he : d + (b + y) = x + 4294967296 * c) :
    IsW (out ++ [d]) ∧ val (out ++ [d]) + val (r.take (k + 1)) = val (l.take (k + 1)) + 4294967296 ^ (k + 1) * c := by
  refine ⟨hV.1.snoc hd, ?_⟩
  have hr : val (r.take (k + 1)) = val (r.take k) + 4294967296 ^ k * y := by
    rcases hy with ⟨h, rfl⟩ | ⟨h, rfl⟩
    · exact val_take h
    · rw [List.take_of_length_le h, List.take_of_length_le (by omega)]; simp
  rw [val_snoc, val_take hk, hr, hout, ← hx, Nat.pow_succ]
  have e : 4294967296 ^ k * d + 4294967296 ^ k * b + 4294967296 ^ k * y = 4294967296 ^ k * x + 4294967296 ^ k * 4294967296 * c := by
    rw [Nat.mul_assoc, ← Nat.mul_add, ← Nat.mul_add, ← Nat.mul_add]
    congr 1
    omega
  have := hV.2
  omega

set_option maxHeartbeats 4000000 in
theorem nsub_calls (A A2 : Option Addr) (c c2 n m : Nat) (w : World) (hc : (words n).length ≤ c) (hc2 : (words m).length ≤ c2) (hl : (words n).length ≤ 1073741824) (hle : m ≤ n) (h : Ws w w.heap.size A (words n)) (h2 : Ws w w.heap.size A2 (words m)) :
    Calls Tryz.prog 149 #[.slice A (words n).length c, .slice A2 (words m).length c2] w fun e w' => NDone w (n - m) e w' := by
  obtain ⟨i0, hi0, hz0, hz1, hz2⟩ := info_parts wordInfo
  have HH := Lib.hid h; have H2 := Lib.hid h2
  have hlr : (words m).length ≤ (words n).length := by
    refine Nat.le_of_not_lt fun hh => ?_
    have := words_lt hh
    omega
  clear h h2
  obtain ⟨l, hln⟩ : ∃ l, l = words n := ⟨_, rfl⟩
  obtain ⟨r, hrm⟩ : ∃ r, r = words m := ⟨_, rfl⟩
  rw [← hln] at HH hl hc hlr ⊢
  rw [← hrm] at H2 hc2 hlr ⊢
  have Hl := Lib.hid hln; have Hr := Lib.hid hrm
  clear hln hrm
  go_enter Tryz.func149, Tryz.ntmps149
  go_wp2_with (first
    | (at_make; refine wpList_make_own _ (by rfl) _ _ 104 (by rfl) w.heap.size 51 i0 (.int .u32 0) 1 Tryz.underlying104 hi0 hz0 hz1 .i64 .i64 _ l.length (by rfl) (by rfl) (by omega) (by rw [hz2]; omega) (by unfold maxLen; omega) (Nat.le_refl _) ?_; intro w0 hown0 hgrow0))
  go_loopw [5, 6, 15] (fun v3 v4 i wr => ∃ (k b : Nat) (out : List Nat), k ≤ l.length ∧ i = .int .i64 k ∧ v4 = .int .u64 b ∧ b ≤ 1 ∧ Hid (wr.ownsRow w.heap.size 51 1 v3 k (uCells out)) ∧ out.length = k ∧ Hid (IsW out ∧ val out + val (r.take k) = val (l.take k) + 4294967296 ^ k * b) ∧ Below w.heap.size w wr) (fun _ _ i _ => l.length - (intOf i).toNat)
  case atStart => exact ⟨0, 0, [], by omega, rfl, rfl, by omega, hown0, rfl, ⟨fun x hx => (by cases hx), by simp [val]⟩, (Below.refl _ _).grown hgrow0 (Nat.le_refl _) (fun k h => by cases h)⟩
  case round =>
    clear hown0 hgrow0
    obtain ⟨k, b, out, hk, rfl, rfl, hbo, hO, hol, hV, hb⟩ := hrel
    by_cases hlt : k < l.length
    · obtain ⟨ad, rfl, hab, h1⟩ := HH.out.at_ k hlt
      have g1 : wr.cell? (ad.add k) = some (.int .u32 (l[k] : Nat)) := (hb.cell (by rw [addr_block]; exact hab)).trans h1
      obtain ⟨x, hx⟩ : ∃ x, x = l[k] := ⟨_, rfl⟩
      rw [← hx] at g1
      have hxw : x < 4294967296 := by rw [hx]; have := words_isW n; rw [← Hl.out] at this; exact this _ (List.getElem_mem hlt)
      have Hx := Lib.hid hx
      clear hx h1
      by_cases hr : k < r.length
      · obtain ⟨ad2, rfl, hab2, h2⟩ := H2.out.at_ k hr
        have g2 : wr.cell? (ad2.add k) = some (.int .u32 (r[k] : Nat)) := (hb.cell (by rw [addr_block]; exact hab2)).trans h2
        obtain ⟨y, hy⟩ : ∃ y, y = r[k] := ⟨_, rfl⟩
        rw [← hy] at g2
        have hyw : y < 4294967296 := by rw [hy]; have := words_isW m; rw [← Hr.out] at this; exact this _ (List.getElem_mem hr)
        have Hy := Lib.hid hy
        clear hy h2
        by_cases hxt : x < b + y
        · have hi : (x : Int) < (b : Int) + (y : Int) := by omega
          --CASE a
          go_wp2_with (at_builtin; (refine wpList_append_own_at _ (by rfl) (.tmp 36) (.tmp 42) 104 (by rfl) w.heap.size 51 i0 _ 1 4 Tryz.underlying104 hi0 hz0 hz1 hz2 rfl (by omega) _ k (uCells out) (by rfl) (hO.out.alloc _) ⟨wr.heap.size, 0, none⟩ 1 1 [.int .u32 (IntKind.u64.wrap (↑x - (↑b + ↑y)) % 4294967296)] (by rfl) (by rfl) (news_next #[.int .u32 (IntKind.u64.wrap (↑x - (↑b + ↑y)) % 4294967296)] 51 (by simp)) (by simp [Value.oneCell']) (by simp only [maxLen]; omega) (by omega) (by simp; have := hb.size; omega) ?_); intro v3 w3 hown1 hgrow hnil hat)
          go_roundw
          case rel =>
            have hs := sub_step (y := y) hlt Hx.out hxw (by omega) hbo (.inl ⟨hr, Hy.out⟩) hol hV.out (x + 4294967296 - (b + y)) 1 (by omega) (by omega)
            exact ⟨k + 1, 1, out ++ [x + 4294967296 - (b + y)], by omega, by go_num, rfl, by omega, u_snoc hown1 (by rw [wrap64_mod]; omega), by simp [hol], hs, below_app0 hb hgrow hb.size (fun k hk => (hO.out.lt _ hk).1)⟩
          case measure => simp [intOf]; omega
          --END a
        · have hi : ¬ (x : Int) < (b : Int) + (y : Int) := by omega
          --CASE b
          go_wp2_with (at_builtin; (refine wpList_append_own_at _ (by rfl) (.tmp 36) (.tmp 42) 104 (by rfl) w.heap.size 51 i0 _ 1 4 Tryz.underlying104 hi0 hz0 hz1 hz2 rfl (by omega) _ k (uCells out) (by rfl) (hO.out.alloc _) ⟨wr.heap.size, 0, none⟩ 1 1 [.int .u32 (↑x - (↑b + ↑y))] (by rfl) (by rfl) (news_next #[.int .u32 (↑x - (↑b + ↑y))] 51 (by simp)) (by simp [Value.oneCell']) (by simp only [maxLen]; omega) (by omega) (by simp; have := hb.size; omega) ?_); intro v3 w3 hown1 hgrow hnil hat)
          go_roundw
          case rel =>
            have hs := sub_step (y := y) hlt Hx.out hxw (by omega) hbo (.inl ⟨hr, Hy.out⟩) hol hV.out (x - (b + y)) 0 (by omega) (by omega)
            exact ⟨k + 1, 0, out ++ [x - (b + y)], by omega, by go_num, rfl, by omega, u_snoc hown1 (by omega), by simp [hol], hs, below_app0 hb hgrow hb.size (fun k hk => (hO.out.lt _ hk).1)⟩
          case measure => simp [intOf]; omega
          --END b
      · by_cases hxt : x < b
        · have hi : (x : Int) < (b : Int) := by omega
          --CASE c
          go_wp2_with (at_builtin; (refine wpList_append_own_at _ (by rfl) (.tmp 36) (.tmp 42) 104 (by rfl) w.heap.size 51 i0 _ 1 4 Tryz.underlying104 hi0 hz0 hz1 hz2 rfl (by omega) _ k (uCells out) (by rfl) (hO.out.alloc _) ⟨wr.heap.size, 0, none⟩ 1 1 [.int .u32 (IntKind.u64.wrap (↑x - ↑b) % 4294967296)] (by rfl) (by rfl) (news_next #[.int .u32 (IntKind.u64.wrap (↑x - ↑b) % 4294967296)] 51 (by simp)) (by simp [Value.oneCell']) (by simp only [maxLen]; omega) (by omega) (by simp; have := hb.size; omega) ?_); intro v3 w3 hown1 hgrow hnil hat)
          go_roundw
          case rel =>
            have hs := sub_step (y := 0) hlt Hx.out hxw (by omega) hbo (.inr ⟨by omega, rfl⟩) hol hV.out (x + 4294967296 - b) 1 (by omega) (by omega)
            exact ⟨k + 1, 1, out ++ [x + 4294967296 - b], by omega, by go_num, rfl, by omega, u_snoc hown1 (by rw [wrap64_mod]; omega), by simp [hol], hs, below_app0 hb hgrow hb.size (fun k hk => (hO.out.lt _ hk).1)⟩
          case measure => simp [intOf]; omega
          --END c
        · have hi : ¬ (x : Int) < (b : Int) := by omega
          --CASE d
          go_wp2_with (at_builtin; (refine wpList_append_own_at _ (by rfl) (.tmp 36) (.tmp 42) 104 (by rfl) w.heap.size 51 i0 _ 1 4 Tryz.underlying104 hi0 hz0 hz1 hz2 rfl (by omega) _ k (uCells out) (by rfl) (hO.out.alloc _) ⟨wr.heap.size, 0, none⟩ 1 1 [.int .u32 (↑x - ↑b)] (by rfl) (by rfl) (news_next #[.int .u32 (↑x - ↑b)] 51 (by simp)) (by simp [Value.oneCell']) (by simp only [maxLen]; omega) (by omega) (by simp; have := hb.size; omega) ?_); intro v3 w3 hown1 hgrow hnil hat)
          go_roundw
          case rel =>
            have hs := sub_step (y := 0) hlt Hx.out hxw (by omega) hbo (.inr ⟨by omega, rfl⟩) hol hV.out (x - b) 0 (by omega) (by omega)
            exact ⟨k + 1, 0, out ++ [x - b], by omega, by go_num, rfl, by omega, u_snoc hown1 (by omega), by simp [hol], hs, below_app0 hb hgrow hb.size (fun k hk => (hO.out.lt _ hk).1)⟩
          case measure => simp [intOf]; omega
          --END d
    · obtain rfl : k = l.length := by omega
      --CASE e
      have hVe := hV.out.2
      rw [List.take_length, List.take_of_length_le hlr, Hl.out, Hr.out, val_words, val_words] at hVe
      have hlt2 := val_lt hV.out.1
      have hb0 : b = 0 := by
        rcases Nat.eq_zero_or_pos b with h | h
        · exact h
        · have : b = 1 := by omega
          subst this
          rw [hol, Hl.out] at hlt2
          omega
      subst hb0
      have hvo : val out = n - m := by omega
      obtain ⟨X, cx, rfl, hcx, hcm, hX⟩ := own_slice1 hO.out
      have hX2 : Ws wr wr.heap.size X out := by unfold Ws; rw [hol]; exact hX
      have HX := Lib.hid hX2
      have HVo := Lib.hid hvo
      have Hiw := Lib.hid hV.out.1
      have ht := trim_calls X cx wr.heap.size out wr (by omega) (by omega) Hiw.out HX.out
      rw [hol] at ht
      have HT := Lib.hid ht
      clear hVe hX hX2 hvo hlt2 hV hO hol ht
      go_wp2_with fail
      refine HT.out.mono ?_
      rintro e w2 ⟨rfl, hw2, hc3, rfl⟩
      rw [HVo.out] at hw2 hc3 ⊢
      have hd : NDone w (n - m) (.returned (.slice X (words (n - m)).length cx)) w2 := ⟨X, cx, rfl, hc3, hcm, hw2, hb⟩
      have HD := Lib.hid hd
      clear hd
      go_wp2
      go_ret
      exact HD.out
      --END e
end Go.Proofs.YtjbdadhggejoiaaGreatDoor

namespace Go.Proofs.YtjbdadhggejoiaaGreatDoor
open Go.RowKit
set_option maxRecDepth 100000

set_option maxHeartbeats 4000000 in
theorem nsmall_calls (x : Nat) (hx : x < 18446744073709551616) (w : World) : Calls Tryz.prog 144 #[.int .u64 x] w fun e w' => NDone w x e w' := by
  go_enter Tryz.func144, Tryz.ntmps144
  go_wp2_with fail
  have hX : Ws (w.alloc (.cells #[.int .u32 ((x : Int) % 4294967296), .int .u32 ((x : Int) / 4294967296)] 51)) (w.heap.size + 1) (some ⟨w.heap.size, 0, none⟩) [x % 4294967296, x / 4294967296] := by
    refine ⟨rfl, fun _ => ⟨_, rfl, by simp, fun j u hu => ?_⟩⟩
    match j with
    | 0 =>
      simp [uCells, U] at hu
      subst hu
      simp [go_sem]
    | 1 =>
      simp [uCells, U] at hu
      subst hu
      simp [go_sem, Addr.add]
    | j + 2 => simp [uCells] at hu
  have hw2 : IsW [x % 4294967296, x / 4294967296] := fun y hy => by
    simp only [List.mem_cons, List.not_mem_nil, or_false] at hy
    rcases hy with rfl | rfl <;> omega
  have hv : val [x % 4294967296, x / 4294967296] = x := by
    simp only [val]
    omega
  have ht := trim_calls (some ⟨w.heap.size, 0, none⟩) 2 _ _ _ (Nat.le_refl _) (by simp) hw2 hX
  rw [hv] at ht
  refine ht.mono ?_
  rintro e w2 ⟨rfl, hw3, hc3, rfl⟩
  have hd : NDone w x (.returned (.slice (some ⟨w.heap.size, 0, none⟩) (words x).length 2)) (w.alloc (.cells #[.int .u32 ((x : Int) % 4294967296), .int .u32 ((x : Int) / 4294967296)] 51)) := ⟨_, _, rfl, hc3, by decide, hw3.more (by simp), (Below.refl _ _).alloc (Nat.le_refl _) _⟩
  have HD := Lib.hid hd
  clear hd hw3 hc3 ht hX hw2 hv
  go_wp2
  go_ret
  exact HD.out
end Go.Proofs.YtjbdadhggejoiaaGreatDoor

namespace Go.Proofs.YtjbdadhggejoiaaGreatDoor
open Go.RowKit
set_option maxRecDepth 100000

set_option maxHeartbeats 4000000 in
theorem ctrim_calls (A : Option Addr) (c B : Nat) (l : List Nat) (w : World) (hc : l.length ≤ c) (hl : l.length ≤ 140737488351232) (hw : IsW l) (h : Ws w B A l) :
    Calls Tryz.prog 52 #[.slice A l.length c] w fun e w' => e = .returned (.slice A (words (val l)).length c) ∧ Ws w B A (words (val l)) ∧ (words (val l)).length ≤ c ∧ w' = w := by
  have HH := Lib.hid h; have HW := Lib.hid hw
  clear h hw
  go_enter Tryz.func52, Tryz.ntmps52
  go_wp2
  go_loopw [3] (fun v2 wr => ∃ k : Nat, k ≤ l.length ∧ v2 = .int .i64 k ∧ Hid (∀ i (h : i < l.length), k ≤ i → l[i] = 0) ∧ w = wr) (fun v _ => (intOf v).toNat)
  case atStart => exact ⟨l.length, Nat.le_refl _, rfl, fun i h1 h2 => absurd h1 (by omega), rfl⟩
  case round =>
    obtain ⟨k, hk, rfl, hZ, rfl⟩ := hrel
    by_cases h0 : k = 0
    · subst h0
      have e := take_words HW.out (Nat.zero_le _) hZ.out (fun h => absurd h (by omega))
      have hw2 : Ws w B A (words (val l)) := by rw [← e]; exact HH.out.take 0 (by omega)
      have el : (words (val l)).length = 0 := by rw [← e]; rfl
      have H2 := Lib.hid hw2
      clear hw2 e
      go_wp2
      go_ret
      exact ⟨by rw [el]; rfl, H2.out, by omega, rfl⟩
    · have hk0 : 0 < k := by omega
      obtain ⟨ad, rfl, hab, hc1⟩ := HH.out.at_ (k - 1) (by omega)
      obtain ⟨x, hx⟩ : ∃ x, x = l[k - 1] := ⟨_, rfl⟩
      rw [← hx] at hc1
      have HX := Lib.hid hx
      clear hx
      by_cases hx0 : x = 0
      · subst hx0
        have hz : ((k : Int) - 1) = ((k - 1 : Nat) : Int) := by omega
        go_wp2
        go_roundw
        case rel =>
          have hz2 : Hid (∀ i (h : i < l.length), k - 1 ≤ i → l[i] = 0) := fun i h1 h2 => by
            by_cases e : i = k - 1
            · subst e; exact HX.out.symm
            · exact hZ.out i h1 (by omega)
          exact ⟨k - 1, by omega, by go_num, hz2, by first | rfl | trivial⟩
        case measure => simp [intOf]; omega
      · have hx1 : ((x : Int) == 0) = false := by rw [beq_eq_false_iff_ne]; omega
        have e := take_words HW.out hk hZ.out (fun _ => by rw [← HX.out]; exact hx0)
        have hw2 : Ws w B (some ad) (words (val l)) := by rw [← e]; exact HH.out.take k hk
        have el : (words (val l)).length = k := by rw [← e, List.length_take]; omega
        have H2 := Lib.hid hw2
        clear hw2 e
        go_wp2
        go_ret
        exact ⟨by rw [el]; rfl, H2.out, by omega, rfl⟩

set_option maxHeartbeats 4000000 in
theorem corder_calls (A A2 : Option Addr) (c c2 B B2 n m : Nat) (w : World) (hl : (words n).length ≤ 140737488351232) (hl2 : (words m).length ≤ 140737488351232) (h : Ws w B A (words n)) (h2 : Ws w B2 A2 (words m)) :
    Calls Tryz.prog 29 #[.slice A (words n).length c, .slice A2 (words m).length c2] w fun e w' => e = .returned (.int .i64 (cmpI n m)) ∧ ∃ q, w' = w.drewN q := by
  have HH := Lib.hid h; have H2 := Lib.hid h2
  clear h h2
  by_cases hlen : (words n).length = (words m).length
  · obtain ⟨k0, hk0⟩ : ∃ k0, k0 = (words n).length := ⟨_, rfl⟩
    rw [← hk0] at hlen
    have Hk := Lib.hid hk0; have Hk2 := Lib.hid hlen
    rw [← hk0, ← hlen]
    rw [← hk0] at hl
    clear hk0 hlen hl2
    go_enter Tryz.func29, Tryz.ntmps29
    go_wp2
    go_loopw [5] (fun i wr => ∃ k : Nat, k ≤ k0 ∧ i = .int .i64 ((k : Int) - 1) ∧ Hid ((words n).drop k = (words m).drop k) ∧ ∃ q, wr = w.drewN q) (fun i _ => (intOf i + 1).toNat)
    case atStart => exact ⟨k0, Nat.le_refl _, rfl, (show _ = _ by rw [List.drop_of_length_le (by rw [Hk.out]; exact Nat.le_refl _), List.drop_of_length_le (by rw [← Hk2.out]; exact Nat.le_refl _)]), 0, rfl⟩
    case round =>
      obtain ⟨k, hk, rfl, hD, q, rfl⟩ := hrel
      by_cases hp : 0 < k
      · obtain ⟨j, rfl⟩ : ∃ j, k = j + 1 := ⟨k - 1, by omega⟩
        have hj : (((j + 1 : Nat) : Int) - 1) = (j : Int) := by omega
        rw [hj]
        clear hj
        have hja : j < (words n).length := by have := Hk.out; omega
        have hjb : j < (words m).length := by have := Hk2.out; omega
        obtain ⟨ada, rfl, _, g0⟩ := HH.out.at_ j hja
        obtain ⟨adb, rfl, _, g1⟩ := H2.out.at_ j hjb
        obtain ⟨x, hx⟩ : ∃ x, x = (words n)[j] := ⟨_, rfl⟩
        obtain ⟨y, hy⟩ : ∃ y, y = (words m)[j] := ⟨_, rfl⟩
        rw [← hx] at g0
        rw [← hy] at g1
        have Hx := Lib.hid hx; have Hy := Lib.hid hy
        clear hx hy
        by_cases e1 : x = y
        · subst e1
          go_wp2
          go_quiet (fail)
          go_wp2
          go_roundw
          case rel => exact ⟨j, by omega, by go_num, (show _ = _ by rw [List.drop_eq_getElem_cons hja, List.drop_eq_getElem_cons hjb, ← Hx.out, ← Hy.out, hD.out]), _, rfl⟩
          case measure => simp [intOf]
        · have e2 : ¬ (x : Int) = (y : Int) := by omega
          by_cases hlt : x < y
          · have hi : (x : Int) < (y : Int) := by omega
            have hv := val_lt_at (words_isW n) hja hjb hD.out (by rw [← Hx.out, ← Hy.out]; exact hlt)
            rw [val_words, val_words] at hv
            have HV := Lib.hid hv
            clear hv hlt e1
            go_wp2
            go_quiet (fail)
            go_wp2
            go_quiet (fail)
            go_wp2
            go_ret
            exact ⟨ret_int (cmp_lt HV.out), _, by simp only [World.drewN_drewN]; rfl⟩
          · have hi : ¬ (x : Int) < (y : Int) := by omega
            have hv := val_lt_at (words_isW m) hjb hja hD.out.symm (by rw [← Hx.out, ← Hy.out]; omega)
            rw [val_words, val_words] at hv
            have HV := Lib.hid hv
            clear hv hlt e1
            go_wp2
            go_quiet (fail)
            go_wp2
            go_quiet (fail)
            go_wp2
            go_ret
            exact ⟨ret_int (cmp_gt HV.out), _, by simp only [World.drewN_drewN]; rfl⟩
      · obtain rfl : k = 0 := by omega
        have hv : n = m := by
          have := hD.out
          rw [List.drop_zero, List.drop_zero] at this
          rw [← val_words n, this, val_words]
        have HV := Lib.hid hv
        clear hv
        go_wp2
        go_ret
        exact ⟨ret_int (cmp_eq HV.out), _, rfl⟩
  · by_cases hlt : (words n).length < (words m).length
    · have hv := words_lt hlt
      have HV := Lib.hid hv
      clear hv
      go_enter Tryz.func29, Tryz.ntmps29
      go_wp2
      go_ret
      exact ⟨ret_int (cmp_lt HV.out), 0, rfl⟩
    · have hv := words_lt (n := m) (m := n) (by omega)
      have HV := Lib.hid hv
      clear hv
      go_enter Tryz.func29, Tryz.ntmps29
      go_wp2
      go_ret
      exact ⟨ret_int (cmp_gt HV.out), 0, rfl⟩
end Go.Proofs.YtjbdadhggejoiaaGreatDoor
