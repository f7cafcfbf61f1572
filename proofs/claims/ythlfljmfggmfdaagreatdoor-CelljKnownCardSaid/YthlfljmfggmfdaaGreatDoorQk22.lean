/-  -/
import Derived.Test.YthlfljmfggmfdaaGreatDoorQk21
/-! ###  -/
namespace Go.Proofs.YthlfljmfggmfdaaGreatDoor
open Go.RowKit
set_option maxRecDepth 100000 in
set_option maxHeartbeats 4000000 in
theorem taken_false1 (nl : Bool) (key : ByteArray) (z : Int) (w : World) (hT : Tabs w) : Calls Tryz.prog 45 #[Ty 1 nl, Nv ⟨2, key, 0, ⟨#[]⟩⟩ z] w (TakenP w 1 nl ⟨2, key, 0, ⟨#[]⟩⟩) := by
 obtain ⟨t1, t2⟩ := taken_of (nl := nl) (show saidC 1 ⟨2, key, 0, ⟨#[]⟩⟩ = some ⟨false, 0, ⟨#[]⟩⟩ from rfl)
 have T1 := hide t1
 have T2 := hide t2
 have CK := hide (fun (w' : World) (o : Old w w') => ccheck_run 1 nl ⟨false, 0, ⟨#[]⟩⟩ w' (hT.old o))
 have HE := err_ok (k := 1) (nl := nl) (c := ⟨false, 0, ⟨#[]⟩⟩) (by decide)
 generalize cellErr vU 1 nl ⟨false, 0, ⟨#[]⟩⟩ = E at *
 generalize cellOk vU 1 nl ⟨false, 0, ⟨#[]⟩⟩ = B at *
 clear t1 t2
 unfold Ret Cl Ty at CK
 simp only at CK
 unfold Ty Nv
 go_enter Tryz.func45, Tryz.ntmps45
 go_wp2_with fail
 go_region
 go_wp2_with fail
 have S0 := hide (SB.drew (SB.start w 1 nl (.cells #[.int .i64 2, .string key, .int .i64 0, .string ⟨#[]⟩, .int .i64 z] 36) ⟨false, 0, ⟨#[]⟩⟩))
 obtain ⟨W, hW⟩ : ∃ W, W = ((((w.alloc (.cells #[.int .i64 1, .bool nl] 54)).alloc (.cells #[.int .i64 2, .string key, .int .i64 0, .string ⟨#[]⟩, .int .i64 z] 36)).alloc (.cells #[.bool false, .int .i64 0, .string ⟨#[]⟩] 38)).alloc (.cells #[.bool false, .int .i64 0, .string ⟨#[]⟩] 38)).drew := ⟨_, rfl⟩
 rw [← hW] at S0 ⊢
 clear hW
 have h0 := S0.out
 have y0 : ∀ w', SB w 1 nl ⟨false, 0, ⟨#[]⟩⟩ w' → w'.cell? ⟨w.heap.size, 0, none⟩ = some (.int .i64 1) := fun w' q => (cell_of_heap q.ty).trans rfl
 have y1 : ∀ w', SB w 1 nl ⟨false, 0, ⟨#[]⟩⟩ w' → w'.cell? ⟨w.heap.size, 1, none⟩ = some (.bool nl) := fun w' q => (cell_of_heap q.ty).trans rfl
 have y2 : ∀ w', SB w 1 nl ⟨false, 0, ⟨#[]⟩⟩ w' → w'.cell? ⟨w.heap.size + 1 + 1 + 1, 0, none⟩ = some (.bool false) := fun w' q => q.val.cells.1
 have y3 : ∀ w', SB w 1 nl ⟨false, 0, ⟨#[]⟩⟩ w' → w'.cell? ⟨w.heap.size + 1 + 1 + 1, 1, none⟩ = some (.int .i64 0) := fun w' q => q.val.cells.2.1
 have y4 : ∀ w', SB w 1 nl ⟨false, 0, ⟨#[]⟩⟩ w' → w'.cell? ⟨w.heap.size + 1 + 1 + 1, 2, none⟩ = some (.string ⟨#[]⟩) := fun w' q => q.val.cells.2.2
 have yf : ∀ w' i, SB w 1 nl ⟨false, 0, ⟨#[]⟩⟩ w' → w'.frozen? ⟨w.heap.size + 1 + 1, i, none⟩ = false := fun w' i q => q.free i
 obtain ⟨f0, z0⟩ : ∃ f : World → Value, ∀ w', SB w 1 nl ⟨false, 0, ⟨#[]⟩⟩ w' → w'.cell? ⟨w.heap.size + 1 + 1, 0, none⟩ = some (f w') := ⟨_, fun w' q => q.there 0 (by decide)⟩
 obtain ⟨f1, z1⟩ : ∃ f : World → Value, ∀ w', SB w 1 nl ⟨false, 0, ⟨#[]⟩⟩ w' → w'.cell? ⟨w.heap.size + 1 + 1, 1, none⟩ = some (f w') := ⟨_, fun w' q => q.there 1 (by decide)⟩
 obtain ⟨f2, z2⟩ : ∃ f : World → Value, ∀ w', SB w 1 nl ⟨false, 0, ⟨#[]⟩⟩ w' → w'.cell? ⟨w.heap.size + 1 + 1, 2, none⟩ = some (f w') := ⟨_, fun w' q => q.there 2 (by decide)⟩
 have hd := hide (Old.drew h0.old)
 go_region_held3 (fun w' => SB w 1 nl ⟨false, 0, ⟨#[]⟩⟩ w')
  (first | assumption | (exact SB.drew h0) | (exact SB.step (SB.drew h0) o9) | (exact SB.store (by assumption) ⟨false, 0, ⟨#[]⟩⟩) | (fail "none"))
  (first
    | (go_at_call 74; (with_reducible refine (CK.out _ hd.out).mono ?_); rintro e w9 ⟨rfl, o9⟩)
    | (fail "none"))
 all_goals
  have S9 := hide (SB.step (SB.drew h0) o9)
  have O6 := hide (S9.out.store ⟨false, 0, ⟨#[]⟩⟩).old
  obtain ⟨d, hdd⟩ := S9.out.res
  clear y0 y1 y2 y3 y4 yf z0 z1 z2
  go_wp2_with fail
  refine bodyPost_ret (results_box2 rfl _ _ (w.heap.size + 1 + 1) _ _ _ rfl (set3_heap hdd _ _ _)) rfl ?_
  exact ⟨_, by rw [T1.out]; rfl, T2.out, O6.out⟩
set_option maxRecDepth 100000 in
set_option maxHeartbeats 4000000 in
theorem taken_falsen (k : Int) (nl : Bool) (key : ByteArray) (z : Int) (h1 : k ≠ 1) (w : World) : Calls Tryz.prog 45 #[Ty k nl, Nv ⟨2, key, 0, ⟨#[]⟩⟩ z] w (TakenP w k nl ⟨2, key, 0, ⟨#[]⟩⟩) := by
 obtain ⟨t1, t2⟩ := taken_no (nl := nl) (show saidC k ⟨2, key, 0, ⟨#[]⟩⟩ = none from by simp [saidC, h1])
 have T1 := hide t1
 have T2 := hide t2
 clear t1 t2
 have k1 : (k == 1) = false := beq_eq_false_iff_ne.2 h1
 unfold Ty Nv
 go_enter Tryz.func45, Tryz.ntmps45
 go_wp2_with fail
 go_region
 go_wp2_with fail
 have S0 := hide (SB.drew (SB.start w k nl (.cells #[.int .i64 2, .string key, .int .i64 0, .string ⟨#[]⟩, .int .i64 z] 36) ⟨false, 0, ⟨#[]⟩⟩))
 obtain ⟨W, hW⟩ : ∃ W, W = ((((w.alloc (.cells #[.int .i64 k, .bool nl] 54)).alloc (.cells #[.int .i64 2, .string key, .int .i64 0, .string ⟨#[]⟩, .int .i64 z] 36)).alloc (.cells #[.bool false, .int .i64 0, .string ⟨#[]⟩] 38)).alloc (.cells #[.bool false, .int .i64 0, .string ⟨#[]⟩] 38)).drew := ⟨_, rfl⟩
 rw [← hW] at S0 ⊢
 clear hW
 have h0 := S0.out
 have y0 : ∀ w', SB w k nl ⟨false, 0, ⟨#[]⟩⟩ w' → w'.cell? ⟨w.heap.size, 0, none⟩ = some (.int .i64 k) := fun w' q => (cell_of_heap q.ty).trans rfl
 have y1 : ∀ w', SB w k nl ⟨false, 0, ⟨#[]⟩⟩ w' → w'.cell? ⟨w.heap.size, 1, none⟩ = some (.bool nl) := fun w' q => (cell_of_heap q.ty).trans rfl
 have y2 : ∀ w', SB w k nl ⟨false, 0, ⟨#[]⟩⟩ w' → w'.cell? ⟨w.heap.size + 1 + 1 + 1, 0, none⟩ = some (.bool false) := fun w' q => q.val.cells.1
 have y3 : ∀ w', SB w k nl ⟨false, 0, ⟨#[]⟩⟩ w' → w'.cell? ⟨w.heap.size + 1 + 1 + 1, 1, none⟩ = some (.int .i64 0) := fun w' q => q.val.cells.2.1
 have y4 : ∀ w', SB w k nl ⟨false, 0, ⟨#[]⟩⟩ w' → w'.cell? ⟨w.heap.size + 1 + 1 + 1, 2, none⟩ = some (.string ⟨#[]⟩) := fun w' q => q.val.cells.2.2
 have yf : ∀ w' i, SB w k nl ⟨false, 0, ⟨#[]⟩⟩ w' → w'.frozen? ⟨w.heap.size + 1 + 1, i, none⟩ = false := fun w' i q => q.free i
 obtain ⟨f0, z0⟩ : ∃ f : World → Value, ∀ w', SB w k nl ⟨false, 0, ⟨#[]⟩⟩ w' → w'.cell? ⟨w.heap.size + 1 + 1, 0, none⟩ = some (f w') := ⟨_, fun w' q => q.there 0 (by decide)⟩
 obtain ⟨f1, z1⟩ : ∃ f : World → Value, ∀ w', SB w k nl ⟨false, 0, ⟨#[]⟩⟩ w' → w'.cell? ⟨w.heap.size + 1 + 1, 1, none⟩ = some (f w') := ⟨_, fun w' q => q.there 1 (by decide)⟩
 obtain ⟨f2, z2⟩ : ∃ f : World → Value, ∀ w', SB w k nl ⟨false, 0, ⟨#[]⟩⟩ w' → w'.cell? ⟨w.heap.size + 1 + 1, 2, none⟩ = some (f w') := ⟨_, fun w' q => q.there 2 (by decide)⟩
 obtain ⟨x0, x1, x2⟩ := h0.val.cells
 obtain ⟨d, hdd⟩ := h0.res
 obtain ⟨r0, r1, r2⟩ := hdd.cells
 have fz := hdd.free
 have O6 := hide (h0.store ⟨false, 0, ⟨#[]⟩⟩).old
 have HS := hide (set3_heap hdd (.bool false) (.int .i64 0) (.string ⟨#[]⟩))
 clear y0 y1 y2 y3 y4 yf z0 z1 z2
 go_region
 go_wp2_with fail
 refine bodyPost_ret (results_box2 rfl _ _ (w.heap.size + 1 + 1) _ _ _ rfl HS.out) rfl ?_
 exact ⟨⟨false, 0, ⟨#[]⟩⟩, by rw [T1.out]; rfl, T2.out _, Old.drew O6.out⟩
set_option maxRecDepth 100000 in
set_option maxHeartbeats 4000000 in
theorem taken_true1 (nl : Bool) (key : ByteArray) (z : Int) (w : World) (hT : Tabs w) : Calls Tryz.prog 45 #[Ty 1 nl, Nv ⟨3, key, 0, ⟨#[]⟩⟩ z] w (TakenP w 1 nl ⟨3, key, 0, ⟨#[]⟩⟩) := by
 obtain ⟨t1, t2⟩ := taken_of (nl := nl) (show saidC 1 ⟨3, key, 0, ⟨#[]⟩⟩ = some ⟨false, 1, ⟨#[]⟩⟩ from rfl)
 have T1 := hide t1
 have T2 := hide t2
 have CK := hide (fun (w' : World) (o : Old w w') => ccheck_run 1 nl ⟨false, 1, ⟨#[]⟩⟩ w' (hT.old o))
 have HE := err_ok (k := 1) (nl := nl) (c := ⟨false, 1, ⟨#[]⟩⟩) (by decide)
 generalize cellErr vU 1 nl ⟨false, 1, ⟨#[]⟩⟩ = E at *
 generalize cellOk vU 1 nl ⟨false, 1, ⟨#[]⟩⟩ = B at *
 clear t1 t2
 unfold Ret Cl Ty at CK
 simp only at CK
 unfold Ty Nv
 go_enter Tryz.func45, Tryz.ntmps45
 go_wp2_with fail
 go_region
 go_wp2_with fail
 have S0 := hide (SB.drew (SB.start w 1 nl (.cells #[.int .i64 3, .string key, .int .i64 0, .string ⟨#[]⟩, .int .i64 z] 36) ⟨false, 1, ⟨#[]⟩⟩))
 obtain ⟨W, hW⟩ : ∃ W, W = ((((w.alloc (.cells #[.int .i64 1, .bool nl] 54)).alloc (.cells #[.int .i64 3, .string key, .int .i64 0, .string ⟨#[]⟩, .int .i64 z] 36)).alloc (.cells #[.bool false, .int .i64 0, .string ⟨#[]⟩] 38)).alloc (.cells #[.bool false, .int .i64 1, .string ⟨#[]⟩] 38)).drew := ⟨_, rfl⟩
 rw [← hW] at S0 ⊢
 clear hW
 have h0 := S0.out
 have y0 : ∀ w', SB w 1 nl ⟨false, 1, ⟨#[]⟩⟩ w' → w'.cell? ⟨w.heap.size, 0, none⟩ = some (.int .i64 1) := fun w' q => (cell_of_heap q.ty).trans rfl
 have y1 : ∀ w', SB w 1 nl ⟨false, 1, ⟨#[]⟩⟩ w' → w'.cell? ⟨w.heap.size, 1, none⟩ = some (.bool nl) := fun w' q => (cell_of_heap q.ty).trans rfl
 have y2 : ∀ w', SB w 1 nl ⟨false, 1, ⟨#[]⟩⟩ w' → w'.cell? ⟨w.heap.size + 1 + 1 + 1, 0, none⟩ = some (.bool false) := fun w' q => q.val.cells.1
 have y3 : ∀ w', SB w 1 nl ⟨false, 1, ⟨#[]⟩⟩ w' → w'.cell? ⟨w.heap.size + 1 + 1 + 1, 1, none⟩ = some (.int .i64 1) := fun w' q => q.val.cells.2.1
 have y4 : ∀ w', SB w 1 nl ⟨false, 1, ⟨#[]⟩⟩ w' → w'.cell? ⟨w.heap.size + 1 + 1 + 1, 2, none⟩ = some (.string ⟨#[]⟩) := fun w' q => q.val.cells.2.2
 have yf : ∀ w' i, SB w 1 nl ⟨false, 1, ⟨#[]⟩⟩ w' → w'.frozen? ⟨w.heap.size + 1 + 1, i, none⟩ = false := fun w' i q => q.free i
 obtain ⟨f0, z0⟩ : ∃ f : World → Value, ∀ w', SB w 1 nl ⟨false, 1, ⟨#[]⟩⟩ w' → w'.cell? ⟨w.heap.size + 1 + 1, 0, none⟩ = some (f w') := ⟨_, fun w' q => q.there 0 (by decide)⟩
 obtain ⟨f1, z1⟩ : ∃ f : World → Value, ∀ w', SB w 1 nl ⟨false, 1, ⟨#[]⟩⟩ w' → w'.cell? ⟨w.heap.size + 1 + 1, 1, none⟩ = some (f w') := ⟨_, fun w' q => q.there 1 (by decide)⟩
 obtain ⟨f2, z2⟩ : ∃ f : World → Value, ∀ w', SB w 1 nl ⟨false, 1, ⟨#[]⟩⟩ w' → w'.cell? ⟨w.heap.size + 1 + 1, 2, none⟩ = some (f w') := ⟨_, fun w' q => q.there 2 (by decide)⟩
 have hd := hide (Old.drew h0.old)
 go_region_held3 (fun w' => SB w 1 nl ⟨false, 1, ⟨#[]⟩⟩ w')
  (first | assumption | (exact SB.drew h0) | (exact SB.step (SB.drew h0) o9) | (exact SB.store (by assumption) ⟨false, 1, ⟨#[]⟩⟩) | (fail "none"))
  (first
    | (go_at_call 74; (with_reducible refine (CK.out _ hd.out).mono ?_); rintro e w9 ⟨rfl, o9⟩)
    | (fail "none"))
 all_goals
  have S9 := hide (SB.step (SB.drew h0) o9)
  have O6 := hide (S9.out.store ⟨false, 1, ⟨#[]⟩⟩).old
  obtain ⟨d, hdd⟩ := S9.out.res
  clear y0 y1 y2 y3 y4 yf z0 z1 z2
  go_wp2_with fail
  refine bodyPost_ret (results_box2 rfl _ _ (w.heap.size + 1 + 1) _ _ _ rfl (set3_heap hdd _ _ _)) rfl ?_
  exact ⟨_, by rw [T1.out]; rfl, T2.out, O6.out⟩
set_option maxRecDepth 100000 in
set_option maxHeartbeats 4000000 in
theorem taken_truen (k : Int) (nl : Bool) (key : ByteArray) (z : Int) (h1 : k ≠ 1) (w : World) : Calls Tryz.prog 45 #[Ty k nl, Nv ⟨3, key, 0, ⟨#[]⟩⟩ z] w (TakenP w k nl ⟨3, key, 0, ⟨#[]⟩⟩) := by
 obtain ⟨t1, t2⟩ := taken_no (nl := nl) (show saidC k ⟨3, key, 0, ⟨#[]⟩⟩ = none from by simp [saidC, h1])
 have T1 := hide t1
 have T2 := hide t2
 clear t1 t2
 have k1 : (k == 1) = false := beq_eq_false_iff_ne.2 h1
 unfold Ty Nv
 go_enter Tryz.func45, Tryz.ntmps45
 go_wp2_with fail
 go_region
 go_wp2_with fail
 have S0 := hide (SB.drew (SB.start w k nl (.cells #[.int .i64 3, .string key, .int .i64 0, .string ⟨#[]⟩, .int .i64 z] 36) ⟨false, 1, ⟨#[]⟩⟩))
 obtain ⟨W, hW⟩ : ∃ W, W = ((((w.alloc (.cells #[.int .i64 k, .bool nl] 54)).alloc (.cells #[.int .i64 3, .string key, .int .i64 0, .string ⟨#[]⟩, .int .i64 z] 36)).alloc (.cells #[.bool false, .int .i64 0, .string ⟨#[]⟩] 38)).alloc (.cells #[.bool false, .int .i64 1, .string ⟨#[]⟩] 38)).drew := ⟨_, rfl⟩
 rw [← hW] at S0 ⊢
 clear hW
 have h0 := S0.out
 have y0 : ∀ w', SB w k nl ⟨false, 1, ⟨#[]⟩⟩ w' → w'.cell? ⟨w.heap.size, 0, none⟩ = some (.int .i64 k) := fun w' q => (cell_of_heap q.ty).trans rfl
 have y1 : ∀ w', SB w k nl ⟨false, 1, ⟨#[]⟩⟩ w' → w'.cell? ⟨w.heap.size, 1, none⟩ = some (.bool nl) := fun w' q => (cell_of_heap q.ty).trans rfl
 have y2 : ∀ w', SB w k nl ⟨false, 1, ⟨#[]⟩⟩ w' → w'.cell? ⟨w.heap.size + 1 + 1 + 1, 0, none⟩ = some (.bool false) := fun w' q => q.val.cells.1
 have y3 : ∀ w', SB w k nl ⟨false, 1, ⟨#[]⟩⟩ w' → w'.cell? ⟨w.heap.size + 1 + 1 + 1, 1, none⟩ = some (.int .i64 1) := fun w' q => q.val.cells.2.1
 have y4 : ∀ w', SB w k nl ⟨false, 1, ⟨#[]⟩⟩ w' → w'.cell? ⟨w.heap.size + 1 + 1 + 1, 2, none⟩ = some (.string ⟨#[]⟩) := fun w' q => q.val.cells.2.2
 have yf : ∀ w' i, SB w k nl ⟨false, 1, ⟨#[]⟩⟩ w' → w'.frozen? ⟨w.heap.size + 1 + 1, i, none⟩ = false := fun w' i q => q.free i
 obtain ⟨f0, z0⟩ : ∃ f : World → Value, ∀ w', SB w k nl ⟨false, 1, ⟨#[]⟩⟩ w' → w'.cell? ⟨w.heap.size + 1 + 1, 0, none⟩ = some (f w') := ⟨_, fun w' q => q.there 0 (by decide)⟩
 obtain ⟨f1, z1⟩ : ∃ f : World → Value, ∀ w', SB w k nl ⟨false, 1, ⟨#[]⟩⟩ w' → w'.cell? ⟨w.heap.size + 1 + 1, 1, none⟩ = some (f w') := ⟨_, fun w' q => q.there 1 (by decide)⟩
 obtain ⟨f2, z2⟩ : ∃ f : World → Value, ∀ w', SB w k nl ⟨false, 1, ⟨#[]⟩⟩ w' → w'.cell? ⟨w.heap.size + 1 + 1, 2, none⟩ = some (f w') := ⟨_, fun w' q => q.there 2 (by decide)⟩
 obtain ⟨x0, x1, x2⟩ := h0.val.cells
 obtain ⟨d, hdd⟩ := h0.res
 obtain ⟨r0, r1, r2⟩ := hdd.cells
 have fz := hdd.free
 have O6 := hide (h0.store ⟨false, 1, ⟨#[]⟩⟩).old
 have HS := hide (set3_heap hdd (.bool false) (.int .i64 1) (.string ⟨#[]⟩))
 clear y0 y1 y2 y3 y4 yf z0 z1 z2
 go_region
 go_wp2_with fail
 refine bodyPost_ret (results_box2 rfl _ _ (w.heap.size + 1 + 1) _ _ _ rfl HS.out) rfl ?_
 exact ⟨⟨false, 1, ⟨#[]⟩⟩, by rw [T1.out]; rfl, T2.out _, Old.drew O6.out⟩
set_option maxRecDepth 100000 in
set_option maxHeartbeats 4000000 in
theorem taken_num2 (nl : Bool) (key : ByteArray) (n z : Int) (w : World) (hT : Tabs w) : Calls Tryz.prog 45 #[Ty 2 nl, Nv ⟨4, key, n, ⟨#[]⟩⟩ z] w (TakenP w 2 nl ⟨4, key, n, ⟨#[]⟩⟩) := by
 obtain ⟨t1, t2⟩ := taken_of (nl := nl) (show saidC 2 ⟨4, key, n, ⟨#[]⟩⟩ = some ⟨false, n, ⟨#[]⟩⟩ from rfl)
 have T1 := hide t1
 have T2 := hide t2
 have CK := hide (fun (w' : World) (o : Old w w') => ccheck_run 2 nl ⟨false, n, ⟨#[]⟩⟩ w' (hT.old o))
 have HE := err_ok (k := 2) (nl := nl) (c := ⟨false, n, ⟨#[]⟩⟩) (by decide)
 generalize cellErr vU 2 nl ⟨false, n, ⟨#[]⟩⟩ = E at *
 generalize cellOk vU 2 nl ⟨false, n, ⟨#[]⟩⟩ = B at *
 clear t1 t2
 unfold Ret Cl Ty at CK
 simp only at CK
 unfold Ty Nv
 go_enter Tryz.func45, Tryz.ntmps45
 go_wp2_with fail
 have S0 := hide (SB.start w 2 nl (.cells #[.int .i64 4, .string key, .int .i64 n, .string ⟨#[]⟩, .int .i64 z] 36) ⟨false, n, ⟨#[]⟩⟩)
 obtain ⟨W, hW⟩ : ∃ W, W = ((((w.alloc (.cells #[.int .i64 2, .bool nl] 54)).alloc (.cells #[.int .i64 4, .string key, .int .i64 n, .string ⟨#[]⟩, .int .i64 z] 36)).alloc (.cells #[.bool false, .int .i64 0, .string ⟨#[]⟩] 38)).alloc (.cells #[.bool false, .int .i64 n, .string ⟨#[]⟩] 38)) := ⟨_, rfl⟩
 rw [← hW] at S0 ⊢
 clear hW
 have h0 := S0.out
 have y0 : ∀ w', SB w 2 nl ⟨false, n, ⟨#[]⟩⟩ w' → w'.cell? ⟨w.heap.size, 0, none⟩ = some (.int .i64 2) := fun w' q => (cell_of_heap q.ty).trans rfl
 have y1 : ∀ w', SB w 2 nl ⟨false, n, ⟨#[]⟩⟩ w' → w'.cell? ⟨w.heap.size, 1, none⟩ = some (.bool nl) := fun w' q => (cell_of_heap q.ty).trans rfl
 have y2 : ∀ w', SB w 2 nl ⟨false, n, ⟨#[]⟩⟩ w' → w'.cell? ⟨w.heap.size + 1 + 1 + 1, 0, none⟩ = some (.bool false) := fun w' q => q.val.cells.1
 have y3 : ∀ w', SB w 2 nl ⟨false, n, ⟨#[]⟩⟩ w' → w'.cell? ⟨w.heap.size + 1 + 1 + 1, 1, none⟩ = some (.int .i64 n) := fun w' q => q.val.cells.2.1
 have y4 : ∀ w', SB w 2 nl ⟨false, n, ⟨#[]⟩⟩ w' → w'.cell? ⟨w.heap.size + 1 + 1 + 1, 2, none⟩ = some (.string ⟨#[]⟩) := fun w' q => q.val.cells.2.2
 have yf : ∀ w' i, SB w 2 nl ⟨false, n, ⟨#[]⟩⟩ w' → w'.frozen? ⟨w.heap.size + 1 + 1, i, none⟩ = false := fun w' i q => q.free i
 obtain ⟨f0, z0⟩ : ∃ f : World → Value, ∀ w', SB w 2 nl ⟨false, n, ⟨#[]⟩⟩ w' → w'.cell? ⟨w.heap.size + 1 + 1, 0, none⟩ = some (f w') := ⟨_, fun w' q => q.there 0 (by decide)⟩
 obtain ⟨f1, z1⟩ : ∃ f : World → Value, ∀ w', SB w 2 nl ⟨false, n, ⟨#[]⟩⟩ w' → w'.cell? ⟨w.heap.size + 1 + 1, 1, none⟩ = some (f w') := ⟨_, fun w' q => q.there 1 (by decide)⟩
 obtain ⟨f2, z2⟩ : ∃ f : World → Value, ∀ w', SB w 2 nl ⟨false, n, ⟨#[]⟩⟩ w' → w'.cell? ⟨w.heap.size + 1 + 1, 2, none⟩ = some (f w') := ⟨_, fun w' q => q.there 2 (by decide)⟩
 have hd := hide (Old.drew h0.old)
 go_region_held3 (fun w' => SB w 2 nl ⟨false, n, ⟨#[]⟩⟩ w')
  (first | assumption | (exact SB.drew h0) | (exact SB.step (SB.drew h0) o9) | (exact SB.store (by assumption) ⟨false, n, ⟨#[]⟩⟩) | (fail "none"))
  (first
    | (go_at_call 74; (with_reducible refine (CK.out _ hd.out).mono ?_); rintro e w9 ⟨rfl, o9⟩)
    | (fail "none"))
 all_goals
  have S9 := hide (SB.step (SB.drew h0) o9)
  have O6 := hide (S9.out.store ⟨false, n, ⟨#[]⟩⟩).old
  obtain ⟨d, hdd⟩ := S9.out.res
  clear y0 y1 y2 y3 y4 yf z0 z1 z2
  go_wp2_with fail
  refine bodyPost_ret (results_box2 rfl _ _ (w.heap.size + 1 + 1) _ _ _ rfl (set3_heap hdd _ _ _)) rfl ?_
  exact ⟨_, by rw [T1.out]; rfl, T2.out, O6.out⟩
set_option maxRecDepth 100000 in
set_option maxHeartbeats 4000000 in
theorem taken_num3 (nl : Bool) (key : ByteArray) (n z : Int) (w : World) (hT : Tabs w) : Calls Tryz.prog 45 #[Ty 3 nl, Nv ⟨4, key, n, ⟨#[]⟩⟩ z] w (TakenP w 3 nl ⟨4, key, n, ⟨#[]⟩⟩) := by
 obtain ⟨t1, t2⟩ := taken_of (nl := nl) (show saidC 3 ⟨4, key, n, ⟨#[]⟩⟩ = some ⟨false, n, ⟨#[]⟩⟩ from rfl)
 have T1 := hide t1
 have T2 := hide t2
 have CK := hide (fun (w' : World) (o : Old w w') => ccheck_run 3 nl ⟨false, n, ⟨#[]⟩⟩ w' (hT.old o))
 have HE := err_ok (k := 3) (nl := nl) (c := ⟨false, n, ⟨#[]⟩⟩) (by decide)
 generalize cellErr vU 3 nl ⟨false, n, ⟨#[]⟩⟩ = E at *
 generalize cellOk vU 3 nl ⟨false, n, ⟨#[]⟩⟩ = B at *
 clear t1 t2
 unfold Ret Cl Ty at CK
 simp only at CK
 unfold Ty Nv
 go_enter Tryz.func45, Tryz.ntmps45
 go_wp2_with fail
 have S0 := hide (SB.start w 3 nl (.cells #[.int .i64 4, .string key, .int .i64 n, .string ⟨#[]⟩, .int .i64 z] 36) ⟨false, n, ⟨#[]⟩⟩)
 obtain ⟨W, hW⟩ : ∃ W, W = ((((w.alloc (.cells #[.int .i64 3, .bool nl] 54)).alloc (.cells #[.int .i64 4, .string key, .int .i64 n, .string ⟨#[]⟩, .int .i64 z] 36)).alloc (.cells #[.bool false, .int .i64 0, .string ⟨#[]⟩] 38)).alloc (.cells #[.bool false, .int .i64 n, .string ⟨#[]⟩] 38)) := ⟨_, rfl⟩
 rw [← hW] at S0 ⊢
 clear hW
 have h0 := S0.out
 have y0 : ∀ w', SB w 3 nl ⟨false, n, ⟨#[]⟩⟩ w' → w'.cell? ⟨w.heap.size, 0, none⟩ = some (.int .i64 3) := fun w' q => (cell_of_heap q.ty).trans rfl
 have y1 : ∀ w', SB w 3 nl ⟨false, n, ⟨#[]⟩⟩ w' → w'.cell? ⟨w.heap.size, 1, none⟩ = some (.bool nl) := fun w' q => (cell_of_heap q.ty).trans rfl
 have y2 : ∀ w', SB w 3 nl ⟨false, n, ⟨#[]⟩⟩ w' → w'.cell? ⟨w.heap.size + 1 + 1 + 1, 0, none⟩ = some (.bool false) := fun w' q => q.val.cells.1
 have y3 : ∀ w', SB w 3 nl ⟨false, n, ⟨#[]⟩⟩ w' → w'.cell? ⟨w.heap.size + 1 + 1 + 1, 1, none⟩ = some (.int .i64 n) := fun w' q => q.val.cells.2.1
 have y4 : ∀ w', SB w 3 nl ⟨false, n, ⟨#[]⟩⟩ w' → w'.cell? ⟨w.heap.size + 1 + 1 + 1, 2, none⟩ = some (.string ⟨#[]⟩) := fun w' q => q.val.cells.2.2
 have yf : ∀ w' i, SB w 3 nl ⟨false, n, ⟨#[]⟩⟩ w' → w'.frozen? ⟨w.heap.size + 1 + 1, i, none⟩ = false := fun w' i q => q.free i
 obtain ⟨f0, z0⟩ : ∃ f : World → Value, ∀ w', SB w 3 nl ⟨false, n, ⟨#[]⟩⟩ w' → w'.cell? ⟨w.heap.size + 1 + 1, 0, none⟩ = some (f w') := ⟨_, fun w' q => q.there 0 (by decide)⟩
 obtain ⟨f1, z1⟩ : ∃ f : World → Value, ∀ w', SB w 3 nl ⟨false, n, ⟨#[]⟩⟩ w' → w'.cell? ⟨w.heap.size + 1 + 1, 1, none⟩ = some (f w') := ⟨_, fun w' q => q.there 1 (by decide)⟩
 obtain ⟨f2, z2⟩ : ∃ f : World → Value, ∀ w', SB w 3 nl ⟨false, n, ⟨#[]⟩⟩ w' → w'.cell? ⟨w.heap.size + 1 + 1, 2, none⟩ = some (f w') := ⟨_, fun w' q => q.there 2 (by decide)⟩
 have hd := hide (Old.drew h0.old)
 go_region_held3 (fun w' => SB w 3 nl ⟨false, n, ⟨#[]⟩⟩ w')
  (first | assumption | (exact SB.drew h0) | (exact SB.step (SB.drew h0) o9) | (exact SB.store (by assumption) ⟨false, n, ⟨#[]⟩⟩) | (fail "none"))
  (first
    | (go_at_call 74; (with_reducible refine (CK.out _ hd.out).mono ?_); rintro e w9 ⟨rfl, o9⟩)
    | (fail "none"))
 all_goals
  have S9 := hide (SB.step (SB.drew h0) o9)
  have O6 := hide (S9.out.store ⟨false, n, ⟨#[]⟩⟩).old
  obtain ⟨d, hdd⟩ := S9.out.res
  clear y0 y1 y2 y3 y4 yf z0 z1 z2
  go_wp2_with fail
  refine bodyPost_ret (results_box2 rfl _ _ (w.heap.size + 1 + 1) _ _ _ rfl (set3_heap hdd _ _ _)) rfl ?_
  exact ⟨_, by rw [T1.out]; rfl, T2.out, O6.out⟩
set_option maxRecDepth 100000 in
set_option maxHeartbeats 4000000 in
theorem taken_numn (k : Int) (nl : Bool) (key : ByteArray) (n z : Int) (h2 : k ≠ 2) (h3 : k ≠ 3) (w : World) : Calls Tryz.prog 45 #[Ty k nl, Nv ⟨4, key, n, ⟨#[]⟩⟩ z] w (TakenP w k nl ⟨4, key, n, ⟨#[]⟩⟩) := by
 obtain ⟨t1, t2⟩ := taken_no (nl := nl) (show saidC k ⟨4, key, n, ⟨#[]⟩⟩ = none from by simp [saidC, h2, h3])
 have T1 := hide t1
 have T2 := hide t2
 clear t1 t2
 have k2 : (k == 2) = false := beq_eq_false_iff_ne.2 h2
 have k3 : (k == 3) = false := beq_eq_false_iff_ne.2 h3
 unfold Ty Nv
 go_enter Tryz.func45, Tryz.ntmps45
 go_wp2_with fail
 have S0 := hide (SB.start w k nl (.cells #[.int .i64 4, .string key, .int .i64 n, .string ⟨#[]⟩, .int .i64 z] 36) ⟨false, n, ⟨#[]⟩⟩)
 obtain ⟨W, hW⟩ : ∃ W, W = ((((w.alloc (.cells #[.int .i64 k, .bool nl] 54)).alloc (.cells #[.int .i64 4, .string key, .int .i64 n, .string ⟨#[]⟩, .int .i64 z] 36)).alloc (.cells #[.bool false, .int .i64 0, .string ⟨#[]⟩] 38)).alloc (.cells #[.bool false, .int .i64 n, .string ⟨#[]⟩] 38)) := ⟨_, rfl⟩
 rw [← hW] at S0 ⊢
 clear hW
 have h0 := S0.out
 have y0 : ∀ w', SB w k nl ⟨false, n, ⟨#[]⟩⟩ w' → w'.cell? ⟨w.heap.size, 0, none⟩ = some (.int .i64 k) := fun w' q => (cell_of_heap q.ty).trans rfl
 have y1 : ∀ w', SB w k nl ⟨false, n, ⟨#[]⟩⟩ w' → w'.cell? ⟨w.heap.size, 1, none⟩ = some (.bool nl) := fun w' q => (cell_of_heap q.ty).trans rfl
 have y2 : ∀ w', SB w k nl ⟨false, n, ⟨#[]⟩⟩ w' → w'.cell? ⟨w.heap.size + 1 + 1 + 1, 0, none⟩ = some (.bool false) := fun w' q => q.val.cells.1
 have y3 : ∀ w', SB w k nl ⟨false, n, ⟨#[]⟩⟩ w' → w'.cell? ⟨w.heap.size + 1 + 1 + 1, 1, none⟩ = some (.int .i64 n) := fun w' q => q.val.cells.2.1
 have y4 : ∀ w', SB w k nl ⟨false, n, ⟨#[]⟩⟩ w' → w'.cell? ⟨w.heap.size + 1 + 1 + 1, 2, none⟩ = some (.string ⟨#[]⟩) := fun w' q => q.val.cells.2.2
 have yf : ∀ w' i, SB w k nl ⟨false, n, ⟨#[]⟩⟩ w' → w'.frozen? ⟨w.heap.size + 1 + 1, i, none⟩ = false := fun w' i q => q.free i
 obtain ⟨f0, z0⟩ : ∃ f : World → Value, ∀ w', SB w k nl ⟨false, n, ⟨#[]⟩⟩ w' → w'.cell? ⟨w.heap.size + 1 + 1, 0, none⟩ = some (f w') := ⟨_, fun w' q => q.there 0 (by decide)⟩
 obtain ⟨f1, z1⟩ : ∃ f : World → Value, ∀ w', SB w k nl ⟨false, n, ⟨#[]⟩⟩ w' → w'.cell? ⟨w.heap.size + 1 + 1, 1, none⟩ = some (f w') := ⟨_, fun w' q => q.there 1 (by decide)⟩
 obtain ⟨f2, z2⟩ : ∃ f : World → Value, ∀ w', SB w k nl ⟨false, n, ⟨#[]⟩⟩ w' → w'.cell? ⟨w.heap.size + 1 + 1, 2, none⟩ = some (f w') := ⟨_, fun w' q => q.there 2 (by decide)⟩
 obtain ⟨x0, x1, x2⟩ := h0.val.cells
 obtain ⟨d, hdd⟩ := h0.res
 obtain ⟨r0, r1, r2⟩ := hdd.cells
 have fz := hdd.free
 have O6 := hide (h0.store ⟨false, n, ⟨#[]⟩⟩).old
 have HS := hide (set3_heap hdd (.bool false) (.int .i64 n) (.string ⟨#[]⟩))
 clear y0 y1 y2 y3 y4 yf z0 z1 z2
 go_region
 go_wp2_with fail
 refine bodyPost_ret (results_box2 rfl _ _ (w.heap.size + 1 + 1) _ _ _ rfl HS.out) rfl ?_
 exact ⟨⟨false, n, ⟨#[]⟩⟩, by rw [T1.out]; rfl, T2.out _, Old.drew O6.out⟩
set_option maxRecDepth 100000 in
set_option maxHeartbeats 4000000 in
theorem taken_str4 (nl : Bool) (key s : ByteArray) (z : Int) (w : World) (hT : Tabs w) : Calls Tryz.prog 45 #[Ty 4 nl, Nv ⟨5, key, 0, s⟩ z] w (TakenP w 4 nl ⟨5, key, 0, s⟩) := by
 obtain ⟨t1, t2⟩ := taken_of (nl := nl) (show saidC 4 ⟨5, key, 0, s⟩ = some ⟨false, 0, s⟩ from rfl)
 have T1 := hide t1
 have T2 := hide t2
 have CK := hide (fun (w' : World) (o : Old w w') => ccheck_run 4 nl ⟨false, 0, s⟩ w' (hT.old o))
 have HE := err_ok (k := 4) (nl := nl) (c := ⟨false, 0, s⟩) (by decide)
 generalize cellErr vU 4 nl ⟨false, 0, s⟩ = E at *
 generalize cellOk vU 4 nl ⟨false, 0, s⟩ = B at *
 clear t1 t2
 unfold Ret Cl Ty at CK
 simp only at CK
 unfold Ty Nv
 go_enter Tryz.func45, Tryz.ntmps45
 go_wp2_with fail
 have S0 := hide (SB.start w 4 nl (.cells #[.int .i64 5, .string key, .int .i64 0, .string s, .int .i64 z] 36) ⟨false, 0, s⟩)
 obtain ⟨W, hW⟩ : ∃ W, W = ((((w.alloc (.cells #[.int .i64 4, .bool nl] 54)).alloc (.cells #[.int .i64 5, .string key, .int .i64 0, .string s, .int .i64 z] 36)).alloc (.cells #[.bool false, .int .i64 0, .string ⟨#[]⟩] 38)).alloc (.cells #[.bool false, .int .i64 0, .string s] 38)) := ⟨_, rfl⟩
 rw [← hW] at S0 ⊢
 clear hW
 have h0 := S0.out
 have y0 : ∀ w', SB w 4 nl ⟨false, 0, s⟩ w' → w'.cell? ⟨w.heap.size, 0, none⟩ = some (.int .i64 4) := fun w' q => (cell_of_heap q.ty).trans rfl
 have y1 : ∀ w', SB w 4 nl ⟨false, 0, s⟩ w' → w'.cell? ⟨w.heap.size, 1, none⟩ = some (.bool nl) := fun w' q => (cell_of_heap q.ty).trans rfl
 have y2 : ∀ w', SB w 4 nl ⟨false, 0, s⟩ w' → w'.cell? ⟨w.heap.size + 1 + 1 + 1, 0, none⟩ = some (.bool false) := fun w' q => q.val.cells.1
 have y3 : ∀ w', SB w 4 nl ⟨false, 0, s⟩ w' → w'.cell? ⟨w.heap.size + 1 + 1 + 1, 1, none⟩ = some (.int .i64 0) := fun w' q => q.val.cells.2.1
 have y4 : ∀ w', SB w 4 nl ⟨false, 0, s⟩ w' → w'.cell? ⟨w.heap.size + 1 + 1 + 1, 2, none⟩ = some (.string s) := fun w' q => q.val.cells.2.2
 have yf : ∀ w' i, SB w 4 nl ⟨false, 0, s⟩ w' → w'.frozen? ⟨w.heap.size + 1 + 1, i, none⟩ = false := fun w' i q => q.free i
 obtain ⟨f0, z0⟩ : ∃ f : World → Value, ∀ w', SB w 4 nl ⟨false, 0, s⟩ w' → w'.cell? ⟨w.heap.size + 1 + 1, 0, none⟩ = some (f w') := ⟨_, fun w' q => q.there 0 (by decide)⟩
 obtain ⟨f1, z1⟩ : ∃ f : World → Value, ∀ w', SB w 4 nl ⟨false, 0, s⟩ w' → w'.cell? ⟨w.heap.size + 1 + 1, 1, none⟩ = some (f w') := ⟨_, fun w' q => q.there 1 (by decide)⟩
 obtain ⟨f2, z2⟩ : ∃ f : World → Value, ∀ w', SB w 4 nl ⟨false, 0, s⟩ w' → w'.cell? ⟨w.heap.size + 1 + 1, 2, none⟩ = some (f w') := ⟨_, fun w' q => q.there 2 (by decide)⟩
 have hd := hide (Old.drew h0.old)
 go_region_held3 (fun w' => SB w 4 nl ⟨false, 0, s⟩ w')
  (first | assumption | (exact SB.drew h0) | (exact SB.step (SB.drew h0) o9) | (exact SB.store (by assumption) ⟨false, 0, s⟩) | (fail "none"))
  (first
    | (go_at_call 74; (with_reducible refine (CK.out _ hd.out).mono ?_); rintro e w9 ⟨rfl, o9⟩)
    | (fail "none"))
 all_goals
  have S9 := hide (SB.step (SB.drew h0) o9)
  have O6 := hide (S9.out.store ⟨false, 0, s⟩).old
  obtain ⟨d, hdd⟩ := S9.out.res
  clear y0 y1 y2 y3 y4 yf z0 z1 z2
  go_wp2_with fail
  refine bodyPost_ret (results_box2 rfl _ _ (w.heap.size + 1 + 1) _ _ _ rfl (set3_heap hdd _ _ _)) rfl ?_
  exact ⟨_, by rw [T1.out]; rfl, T2.out, O6.out⟩
set_option maxRecDepth 100000 in
set_option maxHeartbeats 4000000 in
theorem taken_strn (k : Int) (nl : Bool) (key s : ByteArray) (z : Int) (h4 : k ≠ 4) (h5 : k ≠ 5) (w : World) : Calls Tryz.prog 45 #[Ty k nl, Nv ⟨5, key, 0, s⟩ z] w (TakenP w k nl ⟨5, key, 0, s⟩) := by
 obtain ⟨t1, t2⟩ := taken_no (nl := nl) (show saidC k ⟨5, key, 0, s⟩ = none from by simp [saidC, h4, h5])
 have T1 := hide t1
 have T2 := hide t2
 clear t1 t2
 have k4 : (k == 4) = false := beq_eq_false_iff_ne.2 h4
 have k5 : (k == 5) = false := beq_eq_false_iff_ne.2 h5
 unfold Ty Nv
 go_enter Tryz.func45, Tryz.ntmps45
 go_wp2_with fail
 have S0 := hide (SB.start w k nl (.cells #[.int .i64 5, .string key, .int .i64 0, .string s, .int .i64 z] 36) ⟨false, 0, s⟩)
 obtain ⟨W, hW⟩ : ∃ W, W = ((((w.alloc (.cells #[.int .i64 k, .bool nl] 54)).alloc (.cells #[.int .i64 5, .string key, .int .i64 0, .string s, .int .i64 z] 36)).alloc (.cells #[.bool false, .int .i64 0, .string ⟨#[]⟩] 38)).alloc (.cells #[.bool false, .int .i64 0, .string s] 38)) := ⟨_, rfl⟩
 rw [← hW] at S0 ⊢
 clear hW
 have h0 := S0.out
 have y0 : ∀ w', SB w k nl ⟨false, 0, s⟩ w' → w'.cell? ⟨w.heap.size, 0, none⟩ = some (.int .i64 k) := fun w' q => (cell_of_heap q.ty).trans rfl
 have y1 : ∀ w', SB w k nl ⟨false, 0, s⟩ w' → w'.cell? ⟨w.heap.size, 1, none⟩ = some (.bool nl) := fun w' q => (cell_of_heap q.ty).trans rfl
 have y2 : ∀ w', SB w k nl ⟨false, 0, s⟩ w' → w'.cell? ⟨w.heap.size + 1 + 1 + 1, 0, none⟩ = some (.bool false) := fun w' q => q.val.cells.1
 have y3 : ∀ w', SB w k nl ⟨false, 0, s⟩ w' → w'.cell? ⟨w.heap.size + 1 + 1 + 1, 1, none⟩ = some (.int .i64 0) := fun w' q => q.val.cells.2.1
 have y4 : ∀ w', SB w k nl ⟨false, 0, s⟩ w' → w'.cell? ⟨w.heap.size + 1 + 1 + 1, 2, none⟩ = some (.string s) := fun w' q => q.val.cells.2.2
 have yf : ∀ w' i, SB w k nl ⟨false, 0, s⟩ w' → w'.frozen? ⟨w.heap.size + 1 + 1, i, none⟩ = false := fun w' i q => q.free i
 obtain ⟨f0, z0⟩ : ∃ f : World → Value, ∀ w', SB w k nl ⟨false, 0, s⟩ w' → w'.cell? ⟨w.heap.size + 1 + 1, 0, none⟩ = some (f w') := ⟨_, fun w' q => q.there 0 (by decide)⟩
 obtain ⟨f1, z1⟩ : ∃ f : World → Value, ∀ w', SB w k nl ⟨false, 0, s⟩ w' → w'.cell? ⟨w.heap.size + 1 + 1, 1, none⟩ = some (f w') := ⟨_, fun w' q => q.there 1 (by decide)⟩
 obtain ⟨f2, z2⟩ : ∃ f : World → Value, ∀ w', SB w k nl ⟨false, 0, s⟩ w' → w'.cell? ⟨w.heap.size + 1 + 1, 2, none⟩ = some (f w') := ⟨_, fun w' q => q.there 2 (by decide)⟩
 obtain ⟨x0, x1, x2⟩ := h0.val.cells
 obtain ⟨d, hdd⟩ := h0.res
 obtain ⟨r0, r1, r2⟩ := hdd.cells
 have fz := hdd.free
 have O6 := hide (h0.store ⟨false, 0, s⟩).old
 have HS := hide (set3_heap hdd (.bool false) (.int .i64 0) (.string s))
 clear y0 y1 y2 y3 y4 yf z0 z1 z2
 go_region
 go_wp2_with fail
 refine bodyPost_ret (results_box2 rfl _ _ (w.heap.size + 1 + 1) _ _ _ rfl HS.out) rfl ?_
 exact ⟨⟨false, 0, s⟩, by rw [T1.out]; rfl, T2.out _, Old.drew O6.out⟩
set_option maxRecDepth 100000 in
set_option maxHeartbeats 4000000 in
theorem taken_6 (k : Int) (nl : Bool) (key : ByteArray) (z : Int) (w : World) : Calls Tryz.prog 45 #[Ty k nl, Nv ⟨6, key, 0, ⟨#[]⟩⟩ z] w (TakenP w k nl ⟨6, key, 0, ⟨#[]⟩⟩) := by
 obtain ⟨t1, t2⟩ := taken_no (nl := nl) (show saidC k ⟨6, key, 0, ⟨#[]⟩⟩ = none from by simp [saidC])
 have T1 := hide t1
 have T2 := hide t2
 clear t1 t2
 unfold Ty Nv
 go_enter Tryz.func45, Tryz.ntmps45
 go_wp2_with fail
 have S0 := hide (SB.start w k nl (.cells #[.int .i64 6, .string key, .int .i64 0, .string ⟨#[]⟩, .int .i64 z] 36) ⟨false, 0, ⟨#[]⟩⟩)
 obtain ⟨W, hW⟩ : ∃ W, W = ((((w.alloc (.cells #[.int .i64 k, .bool nl] 54)).alloc (.cells #[.int .i64 6, .string key, .int .i64 0, .string ⟨#[]⟩, .int .i64 z] 36)).alloc (.cells #[.bool false, .int .i64 0, .string ⟨#[]⟩] 38)).alloc (.cells #[.bool false, .int .i64 0, .string ⟨#[]⟩] 38)) := ⟨_, rfl⟩
 rw [← hW] at S0 ⊢
 clear hW
 have h0 := S0.out
 have y0 : ∀ w', SB w k nl ⟨false, 0, ⟨#[]⟩⟩ w' → w'.cell? ⟨w.heap.size, 0, none⟩ = some (.int .i64 k) := fun w' q => (cell_of_heap q.ty).trans rfl
 have y1 : ∀ w', SB w k nl ⟨false, 0, ⟨#[]⟩⟩ w' → w'.cell? ⟨w.heap.size, 1, none⟩ = some (.bool nl) := fun w' q => (cell_of_heap q.ty).trans rfl
 have y2 : ∀ w', SB w k nl ⟨false, 0, ⟨#[]⟩⟩ w' → w'.cell? ⟨w.heap.size + 1 + 1 + 1, 0, none⟩ = some (.bool false) := fun w' q => q.val.cells.1
 have y3 : ∀ w', SB w k nl ⟨false, 0, ⟨#[]⟩⟩ w' → w'.cell? ⟨w.heap.size + 1 + 1 + 1, 1, none⟩ = some (.int .i64 0) := fun w' q => q.val.cells.2.1
 have y4 : ∀ w', SB w k nl ⟨false, 0, ⟨#[]⟩⟩ w' → w'.cell? ⟨w.heap.size + 1 + 1 + 1, 2, none⟩ = some (.string ⟨#[]⟩) := fun w' q => q.val.cells.2.2
 have yf : ∀ w' i, SB w k nl ⟨false, 0, ⟨#[]⟩⟩ w' → w'.frozen? ⟨w.heap.size + 1 + 1, i, none⟩ = false := fun w' i q => q.free i
 obtain ⟨f0, z0⟩ : ∃ f : World → Value, ∀ w', SB w k nl ⟨false, 0, ⟨#[]⟩⟩ w' → w'.cell? ⟨w.heap.size + 1 + 1, 0, none⟩ = some (f w') := ⟨_, fun w' q => q.there 0 (by decide)⟩
 obtain ⟨f1, z1⟩ : ∃ f : World → Value, ∀ w', SB w k nl ⟨false, 0, ⟨#[]⟩⟩ w' → w'.cell? ⟨w.heap.size + 1 + 1, 1, none⟩ = some (f w') := ⟨_, fun w' q => q.there 1 (by decide)⟩
 obtain ⟨f2, z2⟩ : ∃ f : World → Value, ∀ w', SB w k nl ⟨false, 0, ⟨#[]⟩⟩ w' → w'.cell? ⟨w.heap.size + 1 + 1, 2, none⟩ = some (f w') := ⟨_, fun w' q => q.there 2 (by decide)⟩
 obtain ⟨x0, x1, x2⟩ := h0.val.cells
 obtain ⟨d, hdd⟩ := h0.res
 obtain ⟨r0, r1, r2⟩ := hdd.cells
 have fz := hdd.free
 have O6 := hide (h0.store ⟨false, 0, ⟨#[]⟩⟩).old
 have HS := hide (set3_heap hdd (.bool false) (.int .i64 0) (.string ⟨#[]⟩))
 clear y0 y1 y2 y3 y4 yf z0 z1 z2
 go_region
 go_wp2_with fail
 refine bodyPost_ret (results_box2 rfl _ _ (w.heap.size + 1 + 1) _ _ _ rfl HS.out) rfl ?_
 exact ⟨⟨false, 0, ⟨#[]⟩⟩, by rw [T1.out]; rfl, T2.out _, Old.drew O6.out⟩
set_option maxRecDepth 100000 in
set_option maxHeartbeats 4000000 in
theorem taken_7 (k : Int) (nl : Bool) (key : ByteArray) (z : Int) (w : World) : Calls Tryz.prog 45 #[Ty k nl, Nv ⟨7, key, 0, ⟨#[]⟩⟩ z] w (TakenP w k nl ⟨7, key, 0, ⟨#[]⟩⟩) := by
 obtain ⟨t1, t2⟩ := taken_no (nl := nl) (show saidC k ⟨7, key, 0, ⟨#[]⟩⟩ = none from by simp [saidC])
 have T1 := hide t1
 have T2 := hide t2
 clear t1 t2
 unfold Ty Nv
 go_enter Tryz.func45, Tryz.ntmps45
 go_wp2_with fail
 have S0 := hide (SB.start w k nl (.cells #[.int .i64 7, .string key, .int .i64 0, .string ⟨#[]⟩, .int .i64 z] 36) ⟨false, 0, ⟨#[]⟩⟩)
 obtain ⟨W, hW⟩ : ∃ W, W = ((((w.alloc (.cells #[.int .i64 k, .bool nl] 54)).alloc (.cells #[.int .i64 7, .string key, .int .i64 0, .string ⟨#[]⟩, .int .i64 z] 36)).alloc (.cells #[.bool false, .int .i64 0, .string ⟨#[]⟩] 38)).alloc (.cells #[.bool false, .int .i64 0, .string ⟨#[]⟩] 38)) := ⟨_, rfl⟩
 rw [← hW] at S0 ⊢
 clear hW
 have h0 := S0.out
 have y0 : ∀ w', SB w k nl ⟨false, 0, ⟨#[]⟩⟩ w' → w'.cell? ⟨w.heap.size, 0, none⟩ = some (.int .i64 k) := fun w' q => (cell_of_heap q.ty).trans rfl
 have y1 : ∀ w', SB w k nl ⟨false, 0, ⟨#[]⟩⟩ w' → w'.cell? ⟨w.heap.size, 1, none⟩ = some (.bool nl) := fun w' q => (cell_of_heap q.ty).trans rfl
 have y2 : ∀ w', SB w k nl ⟨false, 0, ⟨#[]⟩⟩ w' → w'.cell? ⟨w.heap.size + 1 + 1 + 1, 0, none⟩ = some (.bool false) := fun w' q => q.val.cells.1
 have y3 : ∀ w', SB w k nl ⟨false, 0, ⟨#[]⟩⟩ w' → w'.cell? ⟨w.heap.size + 1 + 1 + 1, 1, none⟩ = some (.int .i64 0) := fun w' q => q.val.cells.2.1
 have y4 : ∀ w', SB w k nl ⟨false, 0, ⟨#[]⟩⟩ w' → w'.cell? ⟨w.heap.size + 1 + 1 + 1, 2, none⟩ = some (.string ⟨#[]⟩) := fun w' q => q.val.cells.2.2
 have yf : ∀ w' i, SB w k nl ⟨false, 0, ⟨#[]⟩⟩ w' → w'.frozen? ⟨w.heap.size + 1 + 1, i, none⟩ = false := fun w' i q => q.free i
 obtain ⟨f0, z0⟩ : ∃ f : World → Value, ∀ w', SB w k nl ⟨false, 0, ⟨#[]⟩⟩ w' → w'.cell? ⟨w.heap.size + 1 + 1, 0, none⟩ = some (f w') := ⟨_, fun w' q => q.there 0 (by decide)⟩
 obtain ⟨f1, z1⟩ : ∃ f : World → Value, ∀ w', SB w k nl ⟨false, 0, ⟨#[]⟩⟩ w' → w'.cell? ⟨w.heap.size + 1 + 1, 1, none⟩ = some (f w') := ⟨_, fun w' q => q.there 1 (by decide)⟩
 obtain ⟨f2, z2⟩ : ∃ f : World → Value, ∀ w', SB w k nl ⟨false, 0, ⟨#[]⟩⟩ w' → w'.cell? ⟨w.heap.size + 1 + 1, 2, none⟩ = some (f w') := ⟨_, fun w' q => q.there 2 (by decide)⟩
 obtain ⟨x0, x1, x2⟩ := h0.val.cells
 obtain ⟨d, hdd⟩ := h0.res
 obtain ⟨r0, r1, r2⟩ := hdd.cells
 have fz := hdd.free
 have O6 := hide (h0.store ⟨false, 0, ⟨#[]⟩⟩).old
 have HS := hide (set3_heap hdd (.bool false) (.int .i64 0) (.string ⟨#[]⟩))
 clear y0 y1 y2 y3 y4 yf z0 z1 z2
 go_region
 go_wp2_with fail
 refine bodyPost_ret (results_box2 rfl _ _ (w.heap.size + 1 + 1) _ _ _ rfl HS.out) rfl ?_
 exact ⟨⟨false, 0, ⟨#[]⟩⟩, by rw [T1.out]; rfl, T2.out _, Old.drew O6.out⟩
end Go.Proofs.YthlfljmfggmfdaaGreatDoor
