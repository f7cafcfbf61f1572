/- The walks of the program's groups that tell which entries may be. -/
import Derived.Test.YtmfbblcipakaiaaGreatDoorGrpE
import Derived.Test.YtmfbblcipakaiaaGreatDoorCopy
import Derived.Test.YtmfbblcipakaiaaGreatDoorOrder
namespace Go.Proofs.YtmfbblcipakaiaaGreatDoor
open Go.RowKit

set_option maxRecDepth 100000 in
theorem odd_run (c : Cell) (w : World) : Calls Tryz.prog 62 #[c.val] w fun e w' => e = .returned (.bool (!valB c)) ∧ Old w w' := by
  obtain ⟨nl, n, s⟩ := c
  have hv : (!valB ⟨nl, n, s⟩) = (!s.toList.isEmpty || (nl && !decide (n = 0))) := by
    unfold valB
    rw [← ByteArray.toList_eq]
    cases s.toList.isEmpty <;> cases nl <;> by_cases hn : n = 0 <;> simp [hn]
  rw [hv]
  clear hv
  have ho : ∀ o, Old w (w.alloc o) := fun o => (Old.refl w).alloc o
  go_enter Tryz.func62, Tryz.ntmps62
  by_cases hs : s.toList = []
  · cases nl
    · go_wp2_with fail
      go_ret
      exact ⟨by simp [hs], ho _⟩
    · by_cases hn : n = 0
      · go_wp2_with fail
        go_ret
        exact ⟨by simp [hs, hn], ho _⟩
      · go_wp2_with fail
        go_ret
        exact ⟨by simp [hn], ho _⟩
  · go_wp2_with fail
    go_ret
    exact ⟨by simp [hs], ho _⟩

/-- the place of the first element that p holds of; -1: none -/
theorem any_at {α : Type} {l : List α} {p : α → Bool} {k : Nat} (hk : k < l.length) (h : p l[k] = true) : l.any p = true := List.any_eq_true.2 ⟨_, List.getElem_mem hk, h⟩
theorem any_none {α : Type} {l : List α} {p : α → Bool} (h : ∀ j : Nat, (hj : j < l.length) → p l[j] = false) : l.any p = false := by
  rw [List.any_eq_false]
  intro x hx
  obtain ⟨j, hj, rfl⟩ := List.getElem_of_mem hx
  simp [h j hj]

set_option maxRecDepth 100000 in
set_option maxHeartbeats 400000 in
theorem index_odd (v : Value) (r : List Cell) (w : World) (hr : RowIs w v r) :
    Calls Tryz.prog 80 #[v, .func (.func 62) #[] #[]] w fun e w' => (∃ i : Int, e = .returned (.int .i64 i) ∧ decide (0 ≤ i) = r.any fun c => !valB c) ∧ Old w w' := by
  obtain ⟨A, ca, rfl, hla, hma, ha⟩ := hr.row
  unfold maxLen at hma
  go_enter Tryz.func80, Tryz.ntmps80
  go_wp2_with fail
  go_loopw [8] (fun i wr => ∃ k : Nat, i = .int .i64 k ∧ k ≤ r.length ∧ Hid (∀ j : Nat, j < k → (hj' : j < r.length) → (!valB r[j]) = false) ∧ Old w wr) (fun i _ => r.length - (intOf i).toNat)
  case atStart => exact ⟨0, rfl, by omega, hide (by intro j hj; omega), Old.refl _⟩
  case round =>
    obtain ⟨k, rfl, hk, HN, hbl⟩ := hrel
    by_cases hlt : k < r.length
    · obtain ⟨b1, o1, rfl, hc1⟩ := ha.resolve_left (by omega)
      obtain ⟨x0, x1, x2⟩ := hc1 k hlt
      have y0 := hbl.cell x0
      have y1 := hbl.cell x1
      have y2 := hbl.cell x2
      have HC := hide (odd_run r[k] wr)
      clear ha hc1 x0 x1 x2
      go_wp2_with fail
      refine HC.out.mono ?_
      rintro e w1 ⟨rfl, h1⟩
      clear y0 y1 y2
      cases hs : valB r[k]
      · have HS := hide hs
        clear hs
        go_wp2_with fail
        go_ret
        refine ⟨⟨(k : Int), rfl, ?_⟩, Old.trans hbl h1⟩
        rw [any_at (k := k) hlt (by rw [HS.out]; rfl)]
        simp
      · have HS := hide hs
        clear hs
        go_wp2_with fail
        go_roundw
        case rel => exact ⟨k + 1, by go_num, by omega, hide (fun j hj hj' => by
          rcases Nat.lt_or_ge j k with h | h
          · exact HN.out j h hj'
          · have : j = k := by omega
            subst this
            rw [HS.out]; rfl), Old.trans hbl h1⟩
        case measure => simp [intOf]; omega
    · go_wp2_with fail
      go_ret
      refine ⟨⟨-1, rfl, ?_⟩, hbl⟩
      rw [any_none fun j hj => HN.out j (by omega) hj]
      rfl
set_option maxRecDepth 100000 in
theorem contains_odd (v : Value) (r : List Cell) (w : World) (hr : RowIs w v r) :
    Calls Tryz.prog 63 #[v, .func (.func 62) #[] #[]] w fun e w' => e = .returned (.bool (r.any fun c => !valB c)) ∧ Old w w' := by
  have HC := hide (index_odd v r w hr)
  clear hr
  go_enter Tryz.func63, Tryz.ntmps63
  go_wp2_with fail
  refine HC.out.mono ?_
  rintro e w1 ⟨⟨i, rfl, hi⟩, h1⟩
  have HI := hide hi
  clear hi
  go_wp2_with fail
  go_ret
  exact ⟨by rw [← HI.out]; rfl, h1⟩
end Go.Proofs.YtmfbblcipakaiaaGreatDoor
