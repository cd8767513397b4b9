/- 'slices.Clone' of words. -/
import Derived.Test.YtjbdadhggejoiaaGreatDoorM06
import Derived.Lib.SliceRun

namespace Go.Proofs.YtjbdadhggejoiaaGreatDoor
open Go.RowKit
set_option maxRecDepth 100000

/-- What a call leaves that makes a row of words. -/
def LDone (w : World) (l : List Nat) (e : Ending) (w' : World) : Prop := ∃ A c, e = .returned (.slice A l.length c) ∧ l.length ≤ c ∧ c ≤ maxLen ∧ Ws w' w'.heap.size A l ∧ Below w.heap.size w w'
/-- the same, of the call's own -/
def LOwn (w : World) (e : TypeId) (l : List Nat) (en : Ending) (w' : World) : Prop := ∃ v, en = .returned v ∧ Hid (w'.ownsRow w.heap.size e 1 v l.length (uCells l)) ∧ Below w.heap.size w w'
theorem LOwn.done {w w' : World} {e : TypeId} {l : List Nat} {en : Ending} (h : LOwn w e l en w') : LDone w l en w' := by
  obtain ⟨v, rfl, ho, hb⟩ := h
  obtain ⟨X, c, rfl, hc, hm, hX⟩ := own_slice1 ho.out
  exact ⟨X, c, rfl, hc, hm, hX, hb⟩
theorem below_drewN (B : Nat) (w : World) (q : Nat) : Below B w (w.drewN q) := ⟨rfl, rfl, rfl, Nat.le_refl _, fun _ _ => rfl⟩
theorem below_of_drewN {B : Nat} {w w' : World} {q : Nat} (h : Below (w.drewN q).heap.size (w.drewN q) w') (hB : B ≤ w.heap.size) : Below B w w' := (below_drewN B w q).trans (h.mono hB)
theorem cellOf {w : World} (t : TypeId) (B : Nat) (h : w.heap.size = B) (xs : Array Value) : (w.alloc (.cells xs t)).heap.size = B + 1 := by simp [h]

set_option maxHeartbeats 4000000 in
theorem clone_own (A : Option Addr) (c : Nat) (l : List Nat) (w : World) (hc : l.length ≤ c) (hl : l.length ≤ 1073741824) (h : Ws w w.heap.size A l) (hA : A ≠ none) :
    Calls Tryz.prog 148 #[.slice A l.length c] w fun e w' => LOwn w 51 l e w' := by
  obtain ⟨i0, hi0, hz0, hz1, hz2⟩ := info_parts wordInfo
  obtain ⟨ad, rfl⟩ : ∃ ad, A = some ad := by
    rcases A with _ | a
    · exact absurd rfl hA
    · exact ⟨a, rfl⟩
  have hcells : ∀ (o : Obj) (j : Nat) (u : Value), (uCells l)[j]? = some u → (w.alloc o).cell? (ad.add j) = some u := fun o j u hu => by
    have hj : j < l.length := by
      rw [← uCells_len l]
      exact (List.getElem?_eq_some_iff.1 hu).1
    obtain ⟨ad', e, hb, hcl⟩ := h.2 (by omega)
    injection e with e
    subst e
    exact (((Below.refl w.heap.size w).alloc (Nat.le_refl _) o).cell (by rw [addr_block]; exact hb)).trans (hcl j u hu)
  have HC := Lib.hid hcells
  have q := fun (w : World) (a : Option Addr) (n c n' c' : Nat) => Lib.run_eql_slice_nil w _ _ a n c n' c' Tryz.underlying104
  clear h hA hcells
  go_enter Tryz.func148, Tryz.ntmps148
  go_wp2_with (at_builtin; (refine wpList_append_own_at _ (by rfl) (.tmp 5) (.tmp 6) 104 (by rfl) w.heap.size 51 i0 _ 1 4 Tryz.underlying104 hi0 hz0 hz1 hz2 rfl (by omega) _ 0 [] (by rfl) (World.ownsRow_made w #[] 0 (Nat.le_refl _) (Nat.zero_le _) rfl) ad l.length c (uCells l) (by rfl) (by rw [uCells_len, Nat.mul_one]) (HC.out _) (by intro u hu; simp only [uCells, List.mem_map] at hu; obtain ⟨x, _, rfl⟩ := hu; rfl) (by simp only [maxLen]; omega) (by omega) (by simp) ?_); intro v3 w3 hown1 hgrow hnil hat)
  go_wp2
  go_ret
  refine ⟨v3, rfl, (show World.ownsRow _ _ _ _ _ _ _ by simpa using hown1), ((Below.refl _ w).alloc (Nat.le_refl _) _).grown hgrow (by simp) (by intro k hk; simp [Value.ownBlock] at hk; omega)⟩
set_option maxHeartbeats 4000000 in
theorem clone_done (A : Option Addr) (c : Nat) (l : List Nat) (w : World) (hc : l.length ≤ c) (hl : l.length ≤ 1073741824) (h : Ws w w.heap.size A l) :
    Calls Tryz.prog 148 #[.slice A l.length c] w fun e w' => LDone w l e w' := by
  rcases A with _ | ad
  · have e0 : l.length = 0 := by
      refine Nat.eq_zero_of_not_pos fun hp => ?_
      obtain ⟨ad, e, _⟩ := h.2 hp
      cases e
    obtain rfl := List.eq_nil_of_length_eq_zero e0
    have q := fun (w : World) (a : Option Addr) (n c n' c' : Nat) => Lib.run_eql_slice_nil w _ _ a n c n' c' Tryz.underlying104
    clear h hc hl e0
    have hx : LDone w [] (.returned (.slice none 0 0)) w := ⟨none, 0, rfl, Nat.le_refl _, by decide, Ws.nil, Below.refl _ _⟩
    have HX := Lib.hid hx
    clear hx
    show Calls _ _ #[.slice none 0 c] _ _
    go_enter Tryz.func148, Tryz.ntmps148
    go_wp2
    go_ret
    exact HX.out
  · exact (clone_own _ c l w hc hl h (by simp)).mono fun _ _ h => h.done
set_option maxHeartbeats 4000000 in
theorem clone32_own (A : Option Addr) (c : Nat) (l : List Nat) (w : World) (hc : l.length ≤ c) (hl : l.length ≤ 1073741824) (h : Ws w w.heap.size A l) (hA : A ≠ none) :
    Calls Tryz.prog 137 #[.slice A l.length c] w fun e w' => LOwn w 51 l e w' := by
  obtain ⟨i0, hi0, hz0, hz1, hz2⟩ := info_parts wordInfo
  obtain ⟨ad, rfl⟩ : ∃ ad, A = some ad := by
    rcases A with _ | a
    · exact absurd rfl hA
    · exact ⟨a, rfl⟩
  have hcells : ∀ (o : Obj) (j : Nat) (u : Value), (uCells l)[j]? = some u → (w.alloc o).cell? (ad.add j) = some u := fun o j u hu => by
    have hj : j < l.length := by
      rw [← uCells_len l]
      exact (List.getElem?_eq_some_iff.1 hu).1
    obtain ⟨ad', e, hb, hcl⟩ := h.2 (by omega)
    injection e with e
    subst e
    exact (((Below.refl w.heap.size w).alloc (Nat.le_refl _) o).cell (by rw [addr_block]; exact hb)).trans (hcl j u hu)
  have HC := Lib.hid hcells
  have q := fun (w : World) (a : Option Addr) (n c n' c' : Nat) => Lib.run_eql_slice_nil w _ _ a n c n' c' Tryz.underlying28
  clear h hA hcells
  go_enter Tryz.func137, Tryz.ntmps137
  go_wp2_with (at_builtin; (refine wpList_append_own_at _ (by rfl) (.tmp 5) (.tmp 6) 28 (by rfl) w.heap.size 51 i0 _ 1 4 Tryz.underlying28 hi0 hz0 hz1 hz2 rfl (by omega) _ 0 [] (by rfl) (World.ownsRow_made w #[] 0 (Nat.le_refl _) (Nat.zero_le _) rfl) ad l.length c (uCells l) (by rfl) (by rw [uCells_len, Nat.mul_one]) (HC.out _) (by intro u hu; simp only [uCells, List.mem_map] at hu; obtain ⟨x, _, rfl⟩ := hu; rfl) (by simp only [maxLen]; omega) (by omega) (by simp) ?_); intro v3 w3 hown1 hgrow hnil hat)
  go_wp2
  go_ret
  refine ⟨v3, rfl, (show World.ownsRow _ _ _ _ _ _ _ by simpa using hown1), ((Below.refl _ w).alloc (Nat.le_refl _) _).grown hgrow (by simp) (by intro k hk; simp [Value.ownBlock] at hk; omega)⟩
set_option maxHeartbeats 4000000 in
theorem clone32_done (A : Option Addr) (c : Nat) (l : List Nat) (w : World) (hc : l.length ≤ c) (hl : l.length ≤ 1073741824) (h : Ws w w.heap.size A l) :
    Calls Tryz.prog 137 #[.slice A l.length c] w fun e w' => LDone w l e w' := by
  rcases A with _ | ad
  · have e0 : l.length = 0 := by
      refine Nat.eq_zero_of_not_pos fun hp => ?_
      obtain ⟨ad, e, _⟩ := h.2 hp
      cases e
    obtain rfl := List.eq_nil_of_length_eq_zero e0
    have q := fun (w : World) (a : Option Addr) (n c n' c' : Nat) => Lib.run_eql_slice_nil w _ _ a n c n' c' Tryz.underlying28
    clear h hc hl e0
    have hx : LDone w [] (.returned (.slice none 0 0)) w := ⟨none, 0, rfl, Nat.le_refl _, by decide, Ws.nil, Below.refl _ _⟩
    have HX := Lib.hid hx
    clear hx
    show Calls _ _ #[.slice none 0 c] _ _
    go_enter Tryz.func137, Tryz.ntmps137
    go_wp2
    go_ret
    exact HX.out
  · exact (clone32_own _ c l w hc hl h (by simp)).mono fun _ _ h => h.done
end Go.Proofs.YtjbdadhggejoiaaGreatDoor
