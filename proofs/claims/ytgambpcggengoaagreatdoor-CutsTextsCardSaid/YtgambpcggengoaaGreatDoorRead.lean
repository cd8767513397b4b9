/- 'cuts.Read' reads a text. -/
import Derived.Test.YtgambpcggengoaaGreatDoorRRead
namespace Go.Proofs.YtgambpcggengoaaGreatDoor
open Go.RowKit
set_option maxRecDepth 100000
attribute [local go_sem] run_frombits run_bits store_f store_c

theorem cell_lt_ {w : World} {a : Addr} {v : Value} (h : w.cell? a = some v) : a.block < w.heap.size := by
  refine Nat.lt_of_not_le fun hn => ?_
  unfold World.cell? at h
  rw [Array.getElem?_eq_none hn] at h
  cases h
/-- A new block of two cells. -/
theorem two_facts {w : World} {b : Nat} {x y : Value} {T : TypeId} (h : w.heap[b]? = some (.cells #[x, y] T (0, 0))) :
    w.cell? ⟨b, 0, none⟩ = some x ∧ w.cell? ⟨b, 1, none⟩ = some y ∧ w.frozen? ⟨b, 0, none⟩ = false ∧ w.frozen? ⟨b, 1, none⟩ = false := by
  refine ⟨?_, ?_, ?_, ?_⟩
  · unfold World.cell?; rw [h]; rfl
  · unfold World.cell?; rw [h]; rfl
  · unfold World.frozen?; rw [h]; rfl
  · unfold World.frozen?; rw [h]; rfl
theorem heap_old {w : World} {b : Nat} {u : Obj} (h : w.heap[b]? = some u) (o : Obj) : (w.alloc o).heap[b]? = some u := by
  have hlt : b < w.heap.size := (Array.getElem?_eq_some_iff.1 h).1
  show (w.heap.push o)[b]? = some u
  rw [Array.getElem?_push, if_neg (Nat.ne_of_lt hlt), h]
theorem setCell_two {w : World} {b i : Nat} {cs : Array Value} {T : TypeId} (hb : w.heap[b]? = some (.cells cs T (0, 0))) (v : Value) :
    (w.setCell ⟨b, i, none⟩ v).heap[b]? = some (.cells (cs.setIfInBounds i v) T (0, 0)) := by
  simp [World.setCell, Array.getElem?_modify, hb]
theorem up_no {w : World} {b k : Nat} {nm : ByteArray} {T : TypeId} (h : ¬ (Cut.knownB (k : Int) = true ∧ knN (k : Int) = nm)) (hb : w.heap[b]? = some (.cells #[.int .i64 (fnUp nm k), .int .i64 0] T (0, 0))) :
    Hid (w.heap[b]? = some (.cells #[.int .i64 (fnUp nm (k + 1)), .int .i64 0] T (0, 0))) := by
  have e : fnUp nm (k + 1) = fnUp nm k := if_neg h
  rw [e]; exact hb
theorem up_yes {w : World} {b k : Nat} {nm : ByteArray} {T : TypeId} (h : Cut.knownB (k : Int) = true ∧ knN (k : Int) = nm) (hb : w.heap[b]? = some (.cells #[.int .i64 k, .int .i64 0] T (0, 0))) :
    Hid (w.heap[b]? = some (.cells #[.int .i64 (fnUp nm (k + 1)), .int .i64 0] T (0, 0))) := by
  have e : fnUp nm (k + 1) = k := if_pos h
  rw [e]; exact hb
theorem below_app4 {B b i : Nat} {w wr w3 : World} {o o2 : Obj} {u : Value} {row : Option Nat} (h : Below B w wr) (hb : B ≤ b) (hg : (((wr.setCell ⟨b, i, none⟩ u).alloc o).alloc o2).grownBy w3 row) (hB : B ≤ wr.heap.size) (hr : ∀ k, row = some k → B ≤ k) : Below B w w3 := by
  have h2 := h.setCell (p := ⟨b, i, none⟩) hb u
  have hs : (wr.setCell ⟨b, i, none⟩ u).heap.size = wr.heap.size := by simp [World.setCell]
  exact ((h2.alloc (by omega) o).alloc (by simp; omega) o2).grown hg (by simp; omega) hr
theorem own_set {w w2 : World} {base : Nat} {e : TypeId} {size : Nat} {v : Value} {n : Nat} {xs : List Value} {i : Nat} {u : Value} (h : w.ownsRow base e size v n xs) (h0 : w2.ownsRow base e size v n xs) :
    (w.setCell ⟨w2.heap.size, i, none⟩ u).ownsRow base e size v n xs := by
  refine ⟨h.1, ?_⟩
  rcases h.2 with h2 | ⟨g, cap, cur, hv, hg, hh, r⟩
  · exact Or.inl h2
  · have hlt := (h0.lt g (by rw [hv]; rfl)).2
    exact Or.inr ⟨g, cap, cur, hv, hg, by rw [Below.heap_setCell _ _ _ _ (by simp; omega)]; exact hh, r⟩
theorem own_below {w w2 : World} {base B : Nat} {e : TypeId} {size : Nat} {v : Value} {n : Nat} {xs : List Value} (h : w.ownsRow base e size v n xs) (hb : Below B w w2) (hB : w.heap.size ≤ B) : w2.ownsRow base e size v n xs :=
  h.kept (row := none) ⟨hb.os, hb.tape, hb.output, hb.size, fun k hk _ => hb.block k (by omega)⟩ (by cases v.ownBlock <;> simp)
theorem pieces_small (sep : ByteArray) : ∀ (k : Nat) (s : ByteArray), ∀ x ∈ Lib.splitB sep 0 k s, x.size ≤ s.size
  | 0, s, x, h => by
    simp only [Lib.splitB, List.mem_singleton] at h
    rw [h]; exact Nat.le_refl _
  | k + 1, s, x, h => by
    unfold Lib.splitB at h
    split at h
    · rw [List.mem_singleton] at h
      rw [h]; exact Nat.le_refl _
    · rcases List.mem_cons.1 h with rfl | h
      · rw [size_toL, Lib.extract_from_zero, List.length_take, ← size_toL]; omega
      · have := pieces_small sep k _ x h
        rw [size_toL (s.extract _ _), Lib.extract_to_end, List.length_drop, ← size_toL] at this
        omega
/-- a text that a list has gives the list's items -/
theorem parse_all {S : ByteArray} (hS : ¬ S.toList = []) {m : List (Int × Int)} (hm : Cut.validB m = true) (e : shB m = S) : (Lib.splitB ⟨#[44, 32]⟩ 0 (Lib.countB S ⟨#[44, 32]⟩) S).map parse = m := by
  subst e
  have h0 : m ≠ [] := fun e => by subst e; exact hS (by decide +kernel)
  rw [pieces_shB h0 (valid_tbl hm), parse_items (valid_tbl hm)]

set_option maxHeartbeats 8000000 in
theorem read_calls (S : ByteArray) (mx : Int) (w : World) (hmx : w.cell? ⟨1, 0, none⟩ = some (.int .i64 mx)) : Calls Tryz.prog 7 #[.string S] w fun e w' => RdDone w S e w' := by
  by_cases hlong : 1048576 < S.size
  · have hx : RdDone w S (.returned (.tuple #[.slice none 0 0, .int .i64 2])) w := ⟨none, 0, [], 2, rfl, .inr (.inl ⟨rfl, rfl, hlong⟩), Nat.le_refl _, Cuts.nil, Below.refl _ _⟩
    have HX := Lib.hid hx
    clear hx
    go_enter Tryz.func7, Tryz.ntmps7
    go_wp2
    refine bodyPost_ret (v := .tuple #[.slice none 0 0, .int .i64 2]) ?_ rfl HX.out
    simp [results, Tryz.results7, go_sem]
  · by_cases hS : S.toList = []
    · have e0 : S = ⟨#[]⟩ := (Lib.bytes_beq_iff S ⟨#[]⟩).1 (by rw [hS]; decide +kernel)
      have hx : RdDone w S (.returned (.tuple #[.slice none 0 0, .int .i64 0])) w := ⟨none, 0, [], 0, rfl, .inl ⟨rfl, rfl, e0.symm⟩, Nat.le_refl _, Cuts.nil, Below.refl _ _⟩
      have HX := Lib.hid hx
      clear hx e0
      go_enter Tryz.func7, Tryz.ntmps7
      go_wp2
      refine bodyPost_ret (v := .tuple #[.slice none 0 0, .int .i64 0]) ?_ rfl HX.out
      simp [results, Tryz.results7, go_sem]
    · have ht : (S.toList == ([] : List UInt8)) = false := by rw [beq_eq_false_iff_ne]; exact hS
      go_enter Tryz.func7, Tryz.ntmps7
      go_wp2_with fail
      refine (Tryz.strings_Split S ⟨#[44, 32]⟩ mx _ (by omega) hmx (by decide)).mono ?_
      rintro e w1 ⟨rfl, hw1⟩
      have hpl : (Lib.splitB ⟨#[44, 32]⟩ 0 (Lib.countB S ⟨#[44, 32]⟩) S).length = Lib.countB S ⟨#[44, 32]⟩ + 1 := Lib.splitB_all _ (by decide) 0 _ S rfl
      have hps := pieces_small ⟨#[44, 32]⟩ (Lib.countB S ⟨#[44, 32]⟩) S
      have hcl := Lib.countB_le ⟨#[44, 32]⟩ (by decide) _ S (Nat.le_refl _)
      have hall := fun m (hm : Cut.validB m = true) (e : shB m = S) => parse_all hS hm e
      obtain ⟨ps, hp⟩ : ∃ ps, ps = Lib.splitB ⟨#[44, 32]⟩ 0 (Lib.countB S ⟨#[44, 32]⟩) S := ⟨_, rfl⟩
      obtain ⟨N, hN⟩ : ∃ N, N = Lib.countB S ⟨#[44, 32]⟩ := ⟨_, rfl⟩
      rw [← hp] at hpl hps hall hw1
      rw [← hN] at hpl hcl
      rw [← hN]
      have hb1 : Below w.heap.size w w1 := by rw [hw1]; exact (Below.refl _ _).alloc (Nat.le_refl _) _
      have hzf : w.heap.size < w1.heap.size := by rw [hw1]; simp
      have hc1 : ∀ j x, ps[j]? = some x → w1.cell? ⟨w.heap.size, j, none⟩ = some (.string x) := fun j x hx => by
        rw [hw1]
        simp [go_sem, hx]
      have hm1 : w1.cell? ⟨1, 0, none⟩ = some (.int .i64 mx) := (hb1.cell (p := ⟨1, 0, none⟩) (cell_lt_ hmx)).trans hmx
      have HC := Lib.hid hc1; have HM := Lib.hid hm1; have HP := Lib.hid hps; have HA := Lib.hid hall
      clear hc1 hm1 hw1 hp hN hps hall
      obtain ⟨i0, hi0, hz0, hz1, hz2⟩ := info_parts cutInfo
      go_wp2
      go_loopw [4, 24] (fun v4 i wr => ∃ n : Nat, n ≤ N + 1 ∧ i = .int .i64 n ∧ Hid (wr.ownsRow w1.heap.size 39 2 v4 n (cutCells ((ps.take n).map parse))) ∧ Below w1.heap.size w1 wr) (fun _ i _ => N + 1 - (intOf i).toNat)
      case atStart => exact ⟨0, by omega, rfl, World.ownsRow_nil _ _ _ _, Below.refl _ _⟩
      case round =>
        obtain ⟨n, hn, rfl, hO, hb⟩ := hrel
        by_cases hlt : n < N + 1
        · have hnp : n < ps.length := by omega
          have hz3 := hb.size
          have g1 : wr.cell? ⟨w.heap.size, n, none⟩ = some (.string ps[n]) := (hb.cell (p := ⟨w.heap.size, n, none⟩) hzf).trans (HC.out n _ (List.getElem?_eq_getElem hnp))
          have hpn : (ps[n]).size ≤ 1048576 := by have := HP.out _ (List.getElem_mem hnp); omega
          obtain ⟨p, hp⟩ : ∃ p, p = ps[n] := ⟨_, rfl⟩
          rw [← hp] at g1 hpn
          have Hp := Lib.hid hp
          clear hp
          have gm : wr.cell? ⟨1, 0, none⟩ = some (.int .i64 mx) := (hb.cell (p := ⟨1, 0, none⟩) (cell_lt_ HM.out)).trans HM.out
          have GM := Lib.hid gm
          clear gm
          go_wp2_with fail
          refine (Tryz.strings_Cut p ⟨#[32]⟩ mx _ (by omega) GM.out).mono ?_
          rintro e w2 ⟨rfl, dn, rfl⟩
          obtain ⟨nm, hnm⟩ : ∃ nm : ByteArray, nm = ⟨(Lib.cut p.data.toList (⟨#[32]⟩ : ByteArray).data.toList).1.toArray⟩ := ⟨_, rfl⟩
          obtain ⟨wd, hwd⟩ : ∃ wd : ByteArray, wd = ⟨(Lib.cut p.data.toList (⟨#[32]⟩ : ByteArray).data.toList).2.1.toArray⟩ := ⟨_, rfl⟩
          rw [← hnm, ← hwd]
          have HN := Lib.hid hnm; have HW := Lib.hid hwd
          clear hnm hwd
          have hO2 : Hid ((wr.drewN dn).ownsRow w1.heap.size 39 2 u4 n (cutCells ((ps.take n).map parse))) := hO
          have hb2 : Below w1.heap.size w1 (wr.drewN dn) := hb.trans ⟨rfl, rfl, rfl, Nat.le_refl _, fun _ _ => rfl⟩
          clear hO hb GM g1
          generalize wr.drewN dn = w2 at hO2 hb2 ⊢
          have hz4 := hb2.size
          have hdn : decide ((n : Int) < (N : Int) + 1) = true := decide_eq_true (by omega)
          go_wp2
          try simp only [hdn]
          go_loopw [11] (fun fk wr2 => ∃ k : Nat, 1 ≤ k ∧ k ≤ 29 ∧ fk = .int .i64 k ∧ Hid (wr2.heap[w2.heap.size]? = some (.cells #[.int .i64 (fnUp nm k), .int .i64 0] 39 (0, 0))) ∧ Below w2.heap.size w2 wr2) (fun i _ => 29 - (intOf i).toNat)
          case atStart => exact ⟨1, by omega, by omega, rfl, heap_alloc_new _ _, (Below.refl _ _).alloc (Nat.le_refl _) _⟩
          case round =>
            obtain ⟨k, hk1, hk29, rfl, hB, hbk⟩ := hrel
            have hz5 := hbk.size
            have hz6 : w2.heap.size < wr.heap.size := (Array.getElem?_eq_some_iff.1 hB.out).1
            by_cases hk : k ≤ 28
            · go_wp2_with fail
              refine (known_calls _ _).mono ?_
              rintro e w3 ⟨rfl, hb3⟩
              have hB3 : Hid (w3.heap[w2.heap.size]? = some (.cells #[.int .i64 (fnUp nm k), .int .i64 0] 39 (0, 0))) := (hb3.block _ hz6).trans hB.out
              have hbk3 := hbk.trans (hb3.mono hz5)
              have hz7 := hb3.size
              have hfc : ∀ o, (w3.alloc o).cell? ⟨w2.heap.size, 0, none⟩ = some (.int .i64 (fnUp nm k)) := fun o => (two_facts (heap_old hB3.out o)).1
              have hff : ∀ o, (w3.alloc o).frozen? ⟨w2.heap.size, 0, none⟩ = false := fun o => (two_facts (heap_old hB3.out o)).2.2.1
              clear hb3 hB hbk
              cases hkn : Cut.knownB (k : Int) with
              | false =>
                have HK := Lib.hid hkn
                --CASE a
                try rw [hkn]
                clear hkn
                go_wp2
                go_roundw
                case rel => exact ⟨k + 1, by omega, by omega, by go_num, up_no (fun h => by rw [HK.out] at h; cases h.1) (heap_old hB3.out _), hbk3.alloc (by omega) _⟩
                case measure => simp [intOf]; omega
                --END a
              | true =>
                have HK := Lib.hid hkn
                cases hnn : ((knN (k : Int)).toList == nm.toList) with
                | false =>
                  have HNN := Lib.hid hnn
                  --CASE b
                  try rw [hkn]
                  clear hkn
                  go_wp2
                  go_roundw
                  case rel => exact ⟨k + 1, by omega, by omega, by go_num, up_no (fun h => by have := (Lib.bytes_beq_iff _ _).2 h.2; rw [HNN.out] at this; cases this) (heap_old hB3.out _), hbk3.alloc (by omega) _⟩
                  case measure => simp [intOf]; omega
                  --END b
                | true =>
                  have HNN := Lib.hid hnn
                  --CASE c
                  try rw [hkn]
                  clear hkn
                  go_wp2
                  go_roundw
                  case rel => exact ⟨k + 1, by omega, by omega, by go_num, up_yes ⟨HK.out, (Lib.bytes_beq_iff _ _).1 HNN.out⟩ (setCell_two (i := 0) (heap_old hB3.out _) _), (hbk3.alloc (by omega) _).setCell (p := ⟨w2.heap.size, 0, none⟩) (Nat.le_refl _) _⟩
                  case measure => simp [intOf]; omega
                  --END c
            · obtain rfl : k = 29 := by omega
              --CASE d
              have hO3 : Hid (wr.ownsRow w1.heap.size 39 2 u4 n (cutCells ((ps.take n).map parse))) := own_below hO2.out hbk (Nat.le_refl _)
              have hb3 := hb2.trans (hbk.mono hz4)
              obtain ⟨f, hf⟩ : ∃ f, f = fnUp nm 29 := ⟨_, rfl⟩
              rw [← hf] at hB
              have Hf := Lib.hid hf
              clear hf
              have hl0 : ∀ o v, ((wr.setCell ⟨w2.heap.size, 1, none⟩ v).alloc o).cell? ⟨w2.heap.size, 0, none⟩ = some (.int .i64 f) := fun o v => (two_facts (heap_old (setCell_two (i := 1) hB.out v) o)).1
              have hl1 : ∀ o v, ((wr.setCell ⟨w2.heap.size, 1, none⟩ v).alloc o).cell? ⟨w2.heap.size, 1, none⟩ = some v := fun o v => (two_facts (heap_old (setCell_two (i := 1) hB.out v) o)).2.1
              have hf1 : ∀ o, (wr.alloc o).cell? ⟨w2.heap.size, 1, none⟩ = some (.int .i64 0) := fun o => (two_facts (heap_old hB.out o)).2.1
              have hff1 : ∀ o, (wr.alloc o).frozen? ⟨w2.heap.size, 1, none⟩ = false := fun o => (two_facts (heap_old hB.out o)).2.2.2
              have hz8 := hb3.size
              clear hbk
              go_wp2_with fail
              refine (Tryz.slices_Index_string wr.heap.size 0 4 4 words wd _ (by decide) (by decide) (fun j hj => ?_)).mono ?_
              · have hj4 : j < 4 := hj
                match j, hj4 with
                | 0, _ => simp [go_sem, words]
                | 1, _ => simp [go_sem, words]
                | 2, _ => simp [go_sem, words]
                | 3, _ => simp [go_sem, words]
              rintro e w5 ⟨rfl, rfl⟩
              obtain ⟨sd, hsd⟩ : ∃ sd, sd = Lib.idxOfS (words.take 4) wd := ⟨_, rfl⟩
              rw [← hsd]
              have Hsd := Lib.hid hsd
              clear hsd
              go_wp2_with (at_builtin; (refine wpList_append_own_at _ (by rfl) (.tmp 57) (.tmp 59) 22 (by rfl) w1.heap.size 39 i0 _ 2 16 Tryz.underlying22 hi0 hz0 hz1 hz2 rfl (by omega) _ n (cutCells ((ps.take n).map parse)) (by rfl) ((by exact ((own_set hO3.out hO2.out).alloc _).alloc _)) ⟨wr.heap.size + 1, 0, none⟩ 1 1 [.int .i64 f, .int .i64 sd] (by rfl) (by rfl) (news_next #[.int .i64 f, .int .i64 sd] 39 (by simp [World.setCell])) (by simp [Value.oneCell']) (by simp only [maxLen]; omega) (by omega) (by simp [World.setCell]; omega) ?_); intro v3 w4 hown1 hgrow hnil hat)
              go_roundw
              case rel =>
                have hf2 : (f, sd) = parse p := by
                  rw [Hf.out, Hsd.out, HN.out, HW.out]
                  rfl
                have e1 : (ps.take (n + 1)).map parse = (ps.take n).map parse ++ [(f, sd)] := by
                  rw [List.take_succ_eq_append_getElem hnp, List.map_append, ← Hp.out, hf2]
                  rfl
                refine ⟨n + 1, by omega, by go_num, ?_, ?_⟩
                · rw [e1, cutCells_append]
                  exact hown1
                · exact below_app4 hb3 hz4 hgrow hz8 (fun k hk => (hO2.out.lt _ hk).1)
              case measure => simp [intOf]; omega
              --END d
        · obtain rfl : n = N + 1 := by omega
          --CASE e
          have hO3 := hO.out
          rw [List.take_of_length_le (by omega)] at hO3
          obtain ⟨out, hout⟩ : ∃ out, out = ps.map parse := ⟨_, rfl⟩
          have hol : N + 1 = out.length := by rw [hout, List.length_map, hpl]
          rw [← hout, hol] at hO3
          obtain ⟨Z, cz, rfl, hcz, _, hZ⟩ := own_slice hO3
          have HZ : Hid (Cuts wr wr.heap.size Z out) := hZ
          have HOut := Lib.hid hout
          have hb2 := hb1.trans (hb.mono hb1.size)
          have hz2 := hb2.size
          have hs0 : S.size ≤ 1048576 := by omega
          clear hO hO3 hZ hout hb
          go_wp2_with fail
          refine (show_all Z cz out _ hcz (by omega) HZ.out).mono ?_
          rintro e w2 ⟨rfl, hb3⟩
          have hb4 := hb2.trans (hb3.mono hz2)
          have HZ2 : Hid (Cuts w2 w2.heap.size Z out) := (HZ.out.below hb3 (Nat.le_refl _)).more hb3.size
          clear HZ hb3 hb2
          have hbad : (∀ m', Cut.validB m' = true → shB m' = S → False) → RdDone w S (.returned (.tuple #[.slice none 0 0, .int .i64 3])) w2 := fun h => ⟨none, 0, [], 3, rfl, .inr (.inr ⟨rfl, rfl, hs0, fun m hm e => h m hm e⟩), Nat.le_refl _, Cuts.nil, hb4⟩
          have HBad := Lib.hid hbad
          clear hbad
          cases hv : Cut.validB out with
          | false =>
            have e1 : shres out = ⟨#[]⟩ := if_neg (by rw [hv]; decide)
            have e2 : validI out = 1 := (validI_no hv).symm
            have hx := HBad.out fun m hm e => by rw [HOut.out, HA.out m hm e, hm] at hv; cases hv
            have HX := Lib.hid hx
            rw [e1, e2]
            clear e1 e2 hx hv
            go_wp2
            refine bodyPost_ret (v := .tuple #[.slice none 0 0, .int .i64 3]) ?_ rfl HX.out
            simp [results, Tryz.results7, go_sem]
          | true =>
            have e1 : shres out = shB out := if_pos hv
            have e2 : validI out = 0 := (validI_yes hv).symm
            rw [e1, e2]
            clear e1 e2
            cases hts : ((shB out).toList == S.toList) with
            | false =>
              have hx := HBad.out fun m hm e => by
                have : out = m := by rw [HOut.out, HA.out m hm e]
                rw [this, e, (Lib.bytes_beq_iff S S).2 rfl] at hts
                cases hts
              have HX := Lib.hid hx
              clear hx hv
              go_wp2
              refine bodyPost_ret (v := .tuple #[.slice none 0 0, .int .i64 3]) ?_ rfl HX.out
              simp [results, Tryz.results7, go_sem]
            | true =>
              have hx : RdDone w S (.returned (.tuple #[.slice Z out.length cz, .int .i64 0])) w2 := ⟨Z, cz, out, 0, rfl, .inl ⟨rfl, hv, (Lib.bytes_beq_iff _ _).1 hts⟩, hcz, HZ2.out, hb4⟩
              have HX := Lib.hid hx
              clear hx hv
              go_wp2
              refine bodyPost_ret (v := .tuple #[.slice Z out.length cz, .int .i64 0]) ?_ rfl HX.out
              simp [results, Tryz.results7, go_sem]
          --END e
end Go.Proofs.YtgambpcggengoaaGreatDoor
