/- 'cuspref23.Read' reads a text. -/
import Derived.Test.YtgambpcggengoaaGreatDoorRPure
import Derived.Test.YtgambpcggengoaaGreatDoorBeh
import Derived.Test.YtgambpcggengoaaGreatDoorShAll
namespace Go.Proofs.YtgambpcggengoaaGreatDoor
open Go.RowKit
set_option maxRecDepth 100000

theorem size_toL (b : ByteArray) : b.size = b.data.toList.length := rfl
theorem bOk_yes {s p : ByteArray} (h : bOk s p = true) : s.data.toList = p.data.toList ++ (bRest s p).data.toList := by
  have e : bRest s p = s.extract p.size s.size := by rw [bRest, h]; rfl
  rw [bOk, Bool.and_eq_true, decide_eq_true_eq] at h
  have h2 := (Lib.bytes_beq_iff _ _).1 h.2
  have h3 : s.data.toList.take p.size = p.data.toList := by rw [← Lib.extract_from_zero, h2]
  rw [e, Lib.extract_to_end, ← h3, List.take_append_drop]
theorem bOk_no {s p : ByteArray} (h : bOk s p = false) (r : List UInt8) : s.data.toList ≠ p.data.toList ++ r := fun e => by
  have h1 : p.size ≤ s.size := by rw [size_toL, size_toL, e, List.length_append]; omega
  have h2 : s.extract 0 p.size = p := bytes_ext (by rw [Lib.extract_from_zero, e, size_toL, List.take_left])
  rw [bOk, h2, decide_eq_true h1, Bool.true_and] at h
  have := (Lib.bytes_beq_iff p p).2 rfl
  rw [this] at h
  cases h
section
variable {t r : ByteArray} {x : Int × Int}
theorem nom_no (h : bOk t (itB x) = false) : NoM t.data.toList x := fun r e => absurd e (bOk_no h r)
theorem nom_ {p : ByteArray} (hp : p = itB x) (hr : r = bRest t p) (h : bOk t p = true) (h1 : ¬ r.data.toList = []) (h2 : ¬ (3 ≤ r.data.toList.length ∧ r.data.toList.take 2 = [44, 32])) : NoM t.data.toList x := fun r' e => by
  have e2 := bOk_yes h
  rw [← hr, hp] at e2
  have e3 : r' = r.data.toList := List.append_cancel_left (e.symm.trans e2)
  rw [e3]
  exact ⟨h1, h2⟩
end
theorem nom_more {t : List UInt8} {n k : Nat} {f : Int} (h : Hid (∀ k' : Nat, 1 ≤ k' → k' < k → NoM t (f, (k' : Int)))) (hn : Hid (NoM t (f, (k : Int)))) (hf : Hid (f = fnAt n)) :
    Hid (∀ k' : Nat, 1 ≤ k' → k' < k + 1 → NoM t (fnAt n, (k' : Int))) := fun k' h1 h2 => by
  rw [← hf.out]
  by_cases e : k' = k
  · subst e; exact hn.out
  · exact h.out k' h1 (by omega)
theorem below_app0 {B : Nat} {w wr w3 : World} {o : Obj} {row : Option Nat} (h : Below B w wr) (hg : (wr.alloc o).grownBy w3 row) (hB : B ≤ wr.heap.size) (hr : ∀ k, row = some k → B ≤ k) : Below B w w3 :=
  (h.alloc hB o).grown hg (by simp; omega) hr
theorem sep_toL : (⟨#[44, 32]⟩ : ByteArray).toList = [44, 32] := by decide +kernel
theorem fnAt_fns {n : Nat} (h : n < fns.length) : fnAt n = fns[n] := by
  show fns.getD n 0 = _
  simp [List.getD, h]

/-- What either 'Read' leaves. -/
def RdDone (w : World) (s : ByteArray) (e : Ending) (w' : World) : Prop := ∃ Z cz m k, e = .returned (.tuple #[.slice Z m.length cz, .int .i64 k]) ∧ RdOk s m k ∧ m.length ≤ cz ∧ Cuts w' w'.heap.size Z m ∧ Below w.heap.size w w'

set_option maxHeartbeats 8000000 in
theorem rread_calls (S : ByteArray) (w : World) : Calls Tryz.prog 8 #[.string S] w fun e w' => RdDone w S e w' := by
  by_cases hlong : 1048576 < S.size
  · have hx : RdDone w S (.returned (.tuple #[.slice none 0 0, .int .i64 2])) w := ⟨none, 0, [], 2, rfl, .inr (.inl ⟨rfl, rfl, hlong⟩), Nat.le_refl _, Cuts.nil, Below.refl _ _⟩
    have HX := Lib.hid hx
    clear hx
    go_enter Tryz.func8, Tryz.ntmps8
    go_wp2
    refine bodyPost_ret (v := .tuple #[.slice none 0 0, .int .i64 2]) ?_ rfl HX.out
    simp [results, Tryz.results8, go_sem]
  · by_cases hS : S.toList = []
    · have e0 : S = ⟨#[]⟩ := (Lib.bytes_beq_iff S ⟨#[]⟩).1 (by rw [hS]; decide +kernel)
      have hx : RdDone w S (.returned (.tuple #[.slice none 0 0, .int .i64 0])) w := ⟨none, 0, [], 0, rfl, .inl ⟨rfl, rfl, e0.symm⟩, Nat.le_refl _, Cuts.nil, Below.refl _ _⟩
      have HX := Lib.hid hx
      clear hx e0
      go_enter Tryz.func8, Tryz.ntmps8
      go_wp2
      refine bodyPost_ret (v := .tuple #[.slice none 0 0, .int .i64 0]) ?_ rfl HX.out
      simp [results, Tryz.results8, go_sem]
    · have ht : (S.toList == ([] : List UInt8)) = false := by rw [beq_eq_false_iff_ne]; exact hS
      go_enter Tryz.func8, Tryz.ntmps8
      go_wp2_with fail
      refine (functions_calls _).mono ?_
      rintro e w1 ⟨rfl, hc, hb1, hzf⟩
      have HC := Lib.hid hc
      clear hc
      obtain ⟨i0, hi0, hz0, hz1, hz2⟩ := info_parts cutInfo
      have hS2 : S.data.toList ≠ [] := fun e => hS (by rw [ByteArray.toList_eq]; exact e)
      have hI := Lib.hid (RInv.start hS2)
      clear hS2
      go_wp2
      go_loopw [0, 4, 6] (fun v0 v4 i wr => ∃ (n : Nat) (t : ByteArray) (out : List (Int × Int)), n ≤ 10 ∧ i = .int .i64 n ∧ v0 = .string t ∧ Hid (RInv S.data.toList out t.data.toList n) ∧ Hid (wr.ownsRow w1.heap.size 39 2 v4 out.length (cutCells out)) ∧ t.size ≤ 1048576 ∧ out.length ≤ n ∧ Below w1.heap.size w1 wr) (fun _ _ i _ => 10 - (intOf i).toNat)
      case atStart => exact ⟨0, S, [], by omega, rfl, rfl, hI, World.ownsRow_nil _ _ _ _, by omega, Nat.le_refl _, Below.refl _ _⟩
      case round =>
        clear hI ht
        obtain ⟨n, t, out, hn, rfl, rfl, hR, hO, hts, hout, hb⟩ := hrel
        by_cases hlt : n < 10
        · have hz2' := hb.size
          have hdn : decide ((n : Int) < 10) = true := decide_eq_true (by omega)
          go_wp2
          try simp only [hdn]
          go_loopw [0, 4, 7] (fun v0 v4 kk wr2 => ∃ k : Nat, 1 ≤ k ∧ k ≤ 4 ∧ kk = .int .i64 k ∧ v0 = .string t ∧ v4 = u4 ∧ Hid (∀ k' : Nat, 1 ≤ k' → k' < k → NoM t.data.toList (fnAt n, k')) ∧ Hid (wr2.ownsRow w1.heap.size 39 2 u4 out.length (cutCells out)) ∧ Below w1.heap.size w1 wr2) (fun _ _ i _ => 4 - (intOf i).toNat)
          case atStart => exact ⟨1, by omega, by omega, rfl, rfl, rfl, (fun k' h1 h2 => absurd h1 (by omega)), hO, hb⟩
          case round =>
            clear hb hO
            obtain ⟨k, hk1, hk4, rfl, rfl, rfl, hM, hO, hb⟩ := hrel
            by_cases hk : k ≤ 3
            · have g1 : wr.cell? ⟨w.heap.size, n, none⟩ = some (.int .i64 (fnAt n)) := (hb.cell (p := ⟨w.heap.size, n, none⟩) hzf).trans (HC.out n hlt)
              obtain ⟨f, hf⟩ : ∃ f, f = fnAt n := ⟨_, rfl⟩
              rw [← hf] at g1 hM
              have hfn : f = fns[n]'hlt := hf.trans (fnAt_fns hlt)
              have Hf := Lib.hid hf
              have Hfn := Lib.hid hfn
              clear hf hfn
              have hkm : (k : Int) ∈ ([1, 2, 3] : List Int) := by
                have : k = 1 ∨ k = 2 ∨ k = 3 := by omega
                rcases this with rfl | rfl | rfl <;> decide
              have Hkm := Lib.hid hkm
              clear hkm
              have ks := knN_size f
              have ss := sdB_size k
              have ks1 : ¬ 9223372036854775807 < (knN f).size + 1 := by omega
              have ks2 : ¬ 9223372036854775807 < (knN f).size + 1 + (sdB k).size := by omega
              go_wp2_with fail
              refine (name_calls f _).mono ?_
              rintro e w2 ⟨rfl, hb2'⟩
              have hb2 : Below w1.heap.size w1 w2 := hb.trans (hb2'.mono hb.size)
              have HO2 : Hid (w2.ownsRow w1.heap.size 39 2 u4 out.length (cutCells out)) := hO.out.kept (row := none) ⟨hb2'.os, hb2'.tape, hb2'.output, hb2'.size, fun k hk _ => hb2'.block k hk⟩ (by cases u4.ownBlock <;> simp)
              have g2 : w2.cell? ⟨w.heap.size, n, none⟩ = some (.int .i64 f) := (hb2'.cell (p := ⟨w.heap.size, n, none⟩) (by show w.heap.size < wr.heap.size; have := hb.size; omega)).trans g1
              clear hb2' hO g1 hb
              go_wp2_with fail
              refine (rside_calls _ _).mono ?_
              rintro e w2' ⟨rfl, rfl⟩
              have hp : (knN f ++ ⟨#[32]⟩ ++ sdB k) = itB (f, (k : Int)) := rfl
              have hps : (itB (f, (k : Int))).size ≤ 1048576 := by have := itB_size (f, (k : Int)); omega
              go_wp2_with fail
              refine (behind_calls t (itB (f, (k : Int))) _ hts hps).mono ?_
              rintro e w6 ⟨rfl, rfl⟩
              obtain ⟨p, hpp⟩ : ∃ p, p = itB (f, (k : Int)) := ⟨_, rfl⟩
              rw [← hpp]
              obtain ⟨r, hr⟩ : ∃ r, r = bRest t p := ⟨_, rfl⟩
              rw [← hr]
              have Hp : Hid (p = itB (f, (k : Int))) := hpp
              have Hr := Lib.hid hr
              clear hp hps hr ks ss ks1 ks2
              have hrs : r.size ≤ 1048576 := by
                rw [Hr.out, bRest]
                split
                · rw [size_toL, Lib.extract_to_end, List.length_drop, ← size_toL]; omega
                · exact hts
              cases hok : bOk t p with
              | false =>
                have Hn : Hid (NoM t.data.toList (f, (k : Int))) := nom_no (by rw [← Hp.out]; exact hok)
                --CASE a
                clear hok hpp
                go_wp2
                go_roundw
                case rel => exact ⟨k + 1, by omega, by omega, by go_num, rfl, rfl, nom_more hM Hn Hf, HO2, hb2⟩
                case measure => simp [intOf]; omega
                --END a
              | true =>
                have Hok := Lib.hid hok
                clear hok hpp
                by_cases hr0 : r.toList = []
                · have hq1 : (r.toList == ([] : List UInt8)) = true := by rw [hr0]; rfl
                  have hq2 : r.data.toList = [] := by rw [← ByteArray.toList_eq]; exact hr0
                  have Hq := Lib.hid hq2
                  clear hq2
                  --CASE b
                  go_wp2_with (at_builtin; (refine wpList_append_own_at _ (by rfl) (.tmp 57) (.tmp 64) 22 (by rfl) w1.heap.size 39 i0 _ 2 16 Tryz.underlying22 hi0 hz0 hz1 hz2 rfl (by omega) _ out.length (cutCells out) (by rfl) ((by exact HO2.out.alloc _)) ⟨w6.heap.size, 0, none⟩ 1 1 [.int .i64 f, .int .i64 k] (by rfl) (by rfl) (news_next #[.int .i64 f, .int .i64 k] 39 (by simp)) (by simp [Value.oneCell']) (by simp only [maxLen]; omega) (by omega) (by simp; have := hb2.size; omega) ?_); intro v3 w3 hown1 hgrow hnil hat)
                  have hl := hR.out.last (by exact hlt) Hkm.out (by
                    have := bOk_yes Hok.out
                    rw [← Hr.out, Hq.out, Hp.out, Hfn.out] at this
                    exact this)
                  rw [← Hfn.out] at hl
                  obtain ⟨Z, cz, rfl, hcz, _, hZ⟩ := own_slice hown1
                  have e1 : out.length + 1 = (out ++ [(f, (k : Int))]).length := by simp
                  have e2 : cutCells out ++ [.int .i64 f, .int .i64 k] = cutCells (out ++ [(f, (k : Int))]) := by rw [cutCells_append]; rfl
                  rw [e1] at hcz hZ ⊢
                  rw [e2] at hZ
                  have hx : RdDone w S (.returned (.tuple #[.slice Z (out ++ [(f, (k : Int))]).length cz, .int .i64 0])) w3 := ⟨Z, cz, _, 0, rfl, .inl ⟨rfl, hl.1, bytes_ext ((shB_data _).trans hl.2)⟩, hcz, hZ, hb1.trans ((below_app0 hb2 hgrow hb2.size (fun k hk => (HO2.out.lt _ hk).1)).mono hb1.size)⟩
                  have HX := Lib.hid hx
                  clear hx hZ hcz hl
                  go_wp2
                  refine bodyPost_ret (v := .tuple #[.slice Z (out ++ [(f, (k : Int))]).length cz, .int .i64 0]) ?_ rfl HX.out
                  simp [results, Tryz.results8, go_sem]
                  --END b
                · have hq1 : (r.toList == ([] : List UInt8)) = false := by rw [beq_eq_false_iff_ne]; exact hr0
                  have hq2 : ¬ r.data.toList = [] := by rw [← ByteArray.toList_eq]; exact hr0
                  have Hq := Lib.hid hq2
                  clear hq2
                  by_cases hr3 : r.size < 3
                  · have Hn : Hid (NoM t.data.toList (f, (k : Int))) := nom_ Hp.out Hr.out Hok.out Hq.out (by rw [← size_toL]; omega)
                    --CASE c
                    go_wp2
                    go_roundw
                    case rel => exact ⟨k + 1, by omega, by omega, by go_num, rfl, rfl, nom_more hM Hn Hf, HO2, hb2⟩
                    case measure => simp [intOf]; omega
                    --END c
                  · have hr3' : 3 ≤ r.size := by omega
                    cases hsp : ((r.extract 0 2).toList == ([44, 32] : List UInt8)) with
                    | false =>
                      have Hn : Hid (NoM t.data.toList (f, (k : Int))) := nom_ Hp.out Hr.out Hok.out Hq.out (fun h => by
                        have e : r.extract 0 2 = ⟨#[44, 32]⟩ := bytes_ext (by rw [Lib.extract_from_zero]; exact h.2)
                        have := (Lib.bytes_beq_iff _ _).2 e
                        rw [sep_toL, hsp] at this
                        cases this)
                      --CASE d
                      go_wp2
                      go_roundw
                      case rel => exact ⟨k + 1, by omega, by omega, by go_num, rfl, rfl, nom_more hM Hn Hf, HO2, hb2⟩
                      case measure => simp [intOf]; omega
                      --END d
                    | true =>
                      skip
                      --CASE e
                      go_wp2_with (at_builtin; (refine wpList_append_own_at _ (by rfl) (.tmp 57) (.tmp 64) 22 (by rfl) w1.heap.size 39 i0 _ 2 16 Tryz.underlying22 hi0 hz0 hz1 hz2 rfl (by omega) _ out.length (cutCells out) (by rfl) ((by exact HO2.out.alloc _)) ⟨w6.heap.size, 0, none⟩ 1 1 [.int .i64 f, .int .i64 k] (by rfl) (by rfl) (news_next #[.int .i64 f, .int .i64 k] 39 (by simp)) (by simp [Value.oneCell']) (by simp only [maxLen]; omega) (by omega) (by simp; have := hb2.size; omega) ?_); intro v3 w3 hown1 hgrow hnil hat)
                      go_roundw
                      case rel =>
                        have hx : r.extract 0 2 = ⟨#[44, 32]⟩ := (Lib.bytes_beq_iff _ _).1 (by rw [sep_toL]; exact hsp)
                        have h2 : r.data.toList = [44, 32] ++ (r.extract 2 r.size).data.toList := by
                          rw [Lib.extract_to_end]
                          have h3 : r.data.toList.take 2 = [44, 32] := by rw [← Lib.extract_from_zero, hx]
                          rw [← h3, List.take_append_drop]
                        have h4 : (r.extract 2 r.size).data.toList ≠ [] := fun e => by
                          rw [e, List.append_nil] at h2
                          have := congrArg List.length h2
                          rw [← size_toL] at this
                          simp at this
                          omega
                        have h5 : t.data.toList = itL (fns[n]'hlt, (k : Int)) ++ ([44, 32] ++ (r.extract 2 r.size).data.toList) := by
                          have := bOk_yes Hok.out
                          rw [← Hr.out, Hp.out, Hfn.out, h2] at this
                          exact this
                        have h6 : RInv S.data.toList (out ++ [(f, (k : Int))]) (r.extract 2 r.size).data.toList (n + 1) := by
                          rw [Hfn.out]
                          exact hR.out.next (show n < fns.length from hlt) Hkm.out h4 h5
                        refine ⟨n + 1, r.extract 2 r.size, out ++ [(f, (k : Int))], by omega, by go_num, rfl, h6, ?_, ?_, by simp; omega, below_app0 hb2 hgrow hb2.size (fun k hk => (HO2.out.lt _ hk).1)⟩
                        · rw [cutCells_append, List.length_append]
                          exact hown1
                        · rw [size_toL, Lib.extract_to_end, List.length_drop, ← size_toL]
                          omega
                      case measure => simp [intOf]; omega
                      --END e
            · obtain rfl : k = 4 := by omega
              --CASE f
              have HR2 : Hid (RInv S.data.toList out t.data.toList (n + 1)) := hR.out.skip (show n < fns.length from hlt) fun k hk => by
                rw [← fnAt_fns (show n < fns.length from hlt)]
                simp only [List.mem_cons, List.not_mem_nil, or_false] at hk
                rcases hk with rfl | rfl | rfl
                · exact hM.out 1 (by omega) (by omega)
                · exact hM.out 2 (by omega) (by omega)
                · exact hM.out 3 (by omega) (by omega)
              go_wp2
              go_roundw
              case rel => exact ⟨n + 1, t, out, by omega, by go_num, rfl, HR2, hO, hts, by omega, hb⟩
              case measure => simp [intOf]; omega
              --END f
        · obtain rfl : n = 10 := by omega
          have hx : RdDone w S (.returned (.tuple #[.slice none 0 0, .int .i64 3])) wr := ⟨none, 0, [], 3, rfl, .inr (.inr ⟨rfl, rfl, by omega, fun m hm e => hR.out.none_ m hm (by rw [← shB_data, e])⟩), Nat.le_refl _, Cuts.nil, hb1.trans (hb.mono hb1.size)⟩
          have HX := Lib.hid hx
          clear hx
          go_wp2
          refine bodyPost_ret (v := .tuple #[.slice none 0 0, .int .i64 3]) ?_ rfl HX.out
          simp [results, Tryz.results8, go_sem]
end Go.Proofs.YtgambpcggengoaaGreatDoor
