/- tape.Sorted. -/
import Derived.Test.YtmolmphbhdbcaaaDoorPutSort
import Derived.Laws.EntriesVeiled
namespace Go.Proofs.YtmolmphbhdbcaaaDoor
open Go.RowKit

/-- what Sorted answers -/
def SortedT (t ps : List Nd) : Prop := (∃ j, May t j ∧ ps = j.sort.flat) ∨ (chkT t ≠ 0 ∧ ps = [])

theorem second_heap (w2 : World) (o o' : Obj) : ((w2.alloc o).alloc o').heap[w2.heap.size + 1]? = some o' := by
  have h := heap_alloc_new (w2.alloc o) o'
  rwa [show (w2.alloc o).heap.size = w2.heap.size + 1 by simp] at h
theorem second_cell (w2 : World) (o : Obj) (x : Value) (T : TypeId) : ((w2.alloc o).alloc (.cells #[x] T)).cell? ⟨w2.heap.size + 1, 0, none⟩ = some x := (cell_of_heap (second_heap w2 o _)).trans rfl
theorem second_free (w2 : World) (o : Obj) (x : Value) (T : TypeId) : ((w2.alloc o).alloc (.cells #[x] T)).frozen? ⟨w2.heap.size + 1, 0, none⟩ = false := free_of_heap (second_heap w2 o _)

set_option maxRecDepth 100000 in
set_option maxHeartbeats 1000000 in
theorem sorted_run (v : Value) (t : List Nd) (w : World) (ht : NodesIs w v t) (hk : TextsOk t) (hT : Tabs w) :
    Calls Tryd.prog 31 #[v] w fun e w' => ∃ ps, SortedT t ps ∧ NewNodes w ps e w' := by
  have CH := hide (show ∀ w', Old w w' → Calls Tryd.prog 25 #[v] w' fun e w2 => e = .returned (.int .i64 (chkT t)) ∧ Old w' w2 from fun w' h => check_run v t w' (ht.old h) hk (hT.old h))
  have HT := hide ht
  obtain ⟨A, ca, rfl, hla, hma, hc⟩ := ht.nodes
  unfold maxLen at hma
  obtain ⟨c, hcc⟩ : ∃ c, Hid (chkT t = c) := ⟨_, hide rfl⟩
  rw [hcc.out] at CH
  clear hc ht
  go_enter Tryd.func31, Tryd.ntmps31
  by_cases h0 : c = 0
  · have h0' : (c != 0) = false := by simp [h0]
    obtain ⟨j, hj⟩ := may_of (hcc.out.trans h0)
    obtain ⟨m, hm⟩ : ∃ m, t.length = m := ⟨_, rfl⟩
    have hm4 : m ≤ 4000 := by rw [← hm]; exact hj.2.1
    rw [hm] at hla CH ⊢
    obtain ⟨i0, hi, hz0, hz1, hz2⟩ := info_parts nodeInfo
    have HMS := hide (show ∀ w1 : World, ∃ w', (Instr.makeSlice 22 (.int .i64 0) (.int .i64 (m : Int))).run Tryd.prog w1 = .ok (.slice (some ⟨w1.heap.size, 0, none⟩) 0 m) w' ∧
      w'.ownsRow w1.heap.size 50 5 (.slice (some ⟨w1.heap.size, 0, none⟩) 0 m) 0 [] ∧ w1.grownBy w' none from fun w1 =>
        run_makeSlice_owned w1 w1.heap.size 22 50 i0 _ 5 Tryd.underlying22 hi hz0 hz1 .i64 .i64 m (by omega) (by rw [hz2]; omega) (by unfold maxLen; omega) (Nat.le_refl _))
    clear hi hz0 hz1 hz2
    clear h0
    go_upto_region 6 with (refine (CH.out _ (Old.alloc (Old.refl _) _)).mono ?_; rintro e w1 ⟨rfl, o1⟩; have b1 : w1.cell? ⟨w.heap.size, 0, none⟩ = some (.slice A m ca) := Old.cell o1 ((cell_of_heap (heap_alloc_new w (.cells #[.slice A m ca] 22))).trans rfl); obtain ⟨w2, ms2, own2, g2⟩ := HMS.out w1; have sc := second_cell w2 (.cells #[.slice (some ⟨w1.heap.size, 0, none⟩) 0 m] 22) .nilFunc 83; have sf := second_free w2 (.cells #[.slice (some ⟨w1.heap.size, 0, none⟩) 0 m] 22) .nilFunc 83)
    have O3 := hide (show Old w1 ((w2.alloc (.cells #[.slice (some ⟨w1.heap.size, 0, none⟩) 0 m] 22)).alloc (.cells #[.func (.func 54) #[] #[.pointer (some ⟨w2.heap.size, 0, none⟩), .pointer (some ⟨w.heap.size, 0, none⟩), .pointer (some ⟨w2.heap.size + 1, 0, none⟩)]] 83)) from
      Old.alloc (Old.alloc (Below.grown (Old.refl w1) g2 (Nat.le_refl _) (fun k hk => by cases hk)) _) _)
    have P3 : PutIs w.heap.size w2.heap.size (w2.heap.size + 1) w1.heap.size m w1.heap.size ((w2.alloc (.cells #[.slice (some ⟨w1.heap.size, 0, none⟩) 0 m] 22)).alloc (.cells #[.func (.func 54) #[] #[.pointer (some ⟨w2.heap.size, 0, none⟩), .pointer (some ⟨w.heap.size, 0, none⟩), .pointer (some ⟨w2.heap.size + 1, 0, none⟩)]] 83)) [] := by
      have hb := heap_alloc_new w2 (.cells #[.slice (some ⟨w1.heap.size, 0, none⟩) 0 m] 22)
      have hO : ∀ o, Old (w2.alloc (.cells #[.slice (some ⟨w1.heap.size, 0, none⟩) 0 m] 22)) ((w2.alloc (.cells #[.slice (some ⟨w1.heap.size, 0, none⟩) 0 m] 22)).alloc o) := fun o => Old.alloc (Old.refl _) o
      exact ⟨(hO _).cell ((cell_of_heap hb).trans rfl), (hO _).frozen ((cell_of_heap hb).trans rfl) (free_of_heap hb), own_old own2 (Old.alloc (Old.alloc (Old.refl _) _) _), second_cell _ _ _ _⟩
    have OW := hide (Old.trans (Old.alloc (Old.refl w) _) o1)
    have hlt : w1.heap.size < w2.heap.size := (own2.lt _ rfl).2
    have HTm := HT.out
    rw [hm] at HTm
    have PR := hide (put_run w.heap.size w2.heap.size (w2.heap.size + 1) w1.heap.size m _ t w1 b1 (HTm.old OW.out) (by omega) (by omega) (Nat.le_refl _) (by omega) (by omega) (by omega) (by omega) t.length j 0 [] [] _ (by rw [hj.1.2.2]) hj.1.1 (by rw [List.drop_zero, List.append_nil]; exact hj.1.2.2) (by simp [hm]) O3.out P3)
    go_wp2_with (refine PR.out.mono ?_; rintro e w4 ⟨rfl, P4, T4⟩; have b4 := P4.box)
    go_ret
    exact ⟨_, .inl ⟨j, hj, rfl⟩, _, rfl, SlT.mono (SlT.of_own P4.own) OW.out.size, Old.trans OW.out (Below.trans O3.out (T4.below O3.out.size (by omega) (Nat.le_refl _)))⟩
  · have h0' : (c != 0) = true := by simp [h0]
    go_wp2_with (refine (CH.out _ (Old.alloc (Old.refl _) _)).mono ?_; rintro e w1 ⟨rfl, o1⟩)
    go_ret
    exact ⟨[], .inr ⟨by rw [hcc.out]; exact h0, rfl⟩, _, rfl, SlT.nil_ _, Old.trans (Old.alloc (Old.refl _) _) o1⟩
end Go.Proofs.YtmolmphbhdbcaaaDoor

