/-  -/
import Derived.Test.YthlfljmfggmfdaaGreatDoorQk23
/-! ###  -/
namespace Go.Proofs.YthlfljmfggmfdaaGreatDoor
open Go.RowKit
theorem wf_s {b : Bool} {s : ByteArray} : Wf ⟨b, 0, s⟩ := ⟨by show (-9223372036854775808 : Int) ≤ 0; omega, by show (0 : Int) ≤ 9223372036854775807; omega⟩
theorem wf_1 {b : Bool} {s : ByteArray} : Wf ⟨b, 1, s⟩ := ⟨by show (-9223372036854775808 : Int) ≤ 1; omega, by show (1 : Int) ≤ 9223372036854775807; omega⟩
def saidV (o : Option Cell) : Value := match o with
 | some c => .tuple #[Cl c, .bool true]
 | none => .tuple #[Cl ⟨false, 0, ⟨#[]⟩⟩, .bool false]
theorem taken_said {k : Int} {nl : Bool} {h : Hd} {c : Cell} (hs : saidC k h = some c) : takenC vU k nl h = if cellOk vU k nl c then some c else none := by
 unfold takenC
 rw [hs]
 cases hc : cellOk vU k nl c <;> simp [hc]
theorem taken_none {k : Int} {nl : Bool} {h : Hd} (hs : saidC k h = none) : takenC vU k nl h = none := by
 unfold takenC
 rw [hs]
 rfl
theorem SB.valset2 {w0 a : World} {k : Int} {nl : Bool} {c : Cell} (h : SB w0 k nl c a) (s : ByteArray) : SB w0 k nl ⟨c.null, c.n, s⟩ (a.setCell ⟨w0.heap.size + 1 + 1 + 1, 2, none⟩ (.string s)) := by
 have hle : w0.heap.size ≤ w0.heap.size + 1 + 1 + 1 := by omega
 refine ⟨Old.setCell h.old hle _, ?_, ?_, ?_⟩
 · rw [heap_set_other (by omega)]; exact h.ty
 · obtain ⟨e, he⟩ := h.res
   refine ⟨e, ?_⟩
   show (World.heap _)[_]? = _
   rw [heap_set_other (by omega)]
   exact he
 · have hv := h.val
   unfold CBox at hv ⊢
   simp [World.setCell, Array.getElem?_modify, hv]
theorem sb_zero (w : World) (k : Int) (nl : Bool) (N : Obj) (C : Obj) : ((((w.alloc (.cells #[.int .i64 k, .bool nl] 54)).alloc N).alloc (.cells #[.bool false, .int .i64 0, .string ⟨#[]⟩] 38)).alloc C).heap[w.heap.size + 1 + 1]? = some (.cells #[.bool false, .int .i64 0, .string ⟨#[]⟩] 38) := by
 have e2 : ∀ o o', ((w.alloc o).alloc o').heap.size = w.heap.size + 1 + 1 := fun o o' => by simp
 refine ((Old.alloc (Old.refl _) _).block _ (by simp)).trans ?_
 rw [← e2]
 exact heap_alloc_new _ _
set_option maxRecDepth 100000 in
set_option maxHeartbeats 4000000 in
theorem rtaken_null (k : Int) (nl : Bool) (key s : ByteArray) (n z : Int) (hk : mayK k = true) (w : World) : Calls Tryz.prog 50 #[Ty k nl, Nv ⟨1, key, n, s⟩ z] w (Ret (saidV (takenC vU k nl ⟨1, key, n, s⟩)) w) := by
 rw [taken_said (nl := nl) (show saidC k ⟨1, key, n, s⟩ = some ⟨true, 0, ⟨#[]⟩⟩ from rfl)]
 have CK := hide (fun (w' : World) => rcheck_run k nl ⟨true, 0, ⟨#[]⟩⟩ wf_s w')
 have HE := err_ok (k := k) (nl := nl) (c := ⟨true, 0, ⟨#[]⟩⟩) (by first | decide | assumption)
 generalize cellErr vU k nl ⟨true, 0, ⟨#[]⟩⟩ = E at *
 generalize cellOk vU k nl ⟨true, 0, ⟨#[]⟩⟩ = B at *
 unfold Ret Cl Ty at CK
 simp only at CK
 unfold Ty Nv Ret saidV
 go_enter Tryz.func50, Tryz.ntmps50
 go_wp2_with fail
 have S0 := hide (SB.start w k nl (.cells #[.int .i64 1, .string key, .int .i64 n, .string s, .int .i64 z] 36) ⟨true, 0, ⟨#[]⟩⟩)
 obtain ⟨W, hW⟩ : ∃ W, W = ((((w.alloc (.cells #[.int .i64 k, .bool nl] 54)).alloc (.cells #[.int .i64 1, .string key, .int .i64 n, .string s, .int .i64 z] 36)).alloc (.cells #[.bool false, .int .i64 0, .string ⟨#[]⟩] 38)).alloc (.cells #[.bool true, .int .i64 0, .string ⟨#[]⟩] 38)) := ⟨_, rfl⟩
 rw [← hW] at S0 ⊢
 clear hW
 refine (CK.out _).mono ?_
 rintro e w5 ⟨rfl, o5⟩
 have S5 := hide (S0.out.step o5)
 clear o5 CK
 obtain ⟨x0, x1, x2⟩ := S5.out.val.cells
 obtain ⟨d, hdd⟩ := S5.out.res
 obtain ⟨r0, r1, r2⟩ := hdd.cells
 have fz := hdd.free
 have HS := hide (fun v0 v1 v2 => set3_heap hdd v0 v1 v2)
 have O0 := hide (S5.out.store ⟨false, 0, ⟨#[]⟩⟩).old
 have O1 := hide (S5.out.store ⟨true, 0, ⟨#[]⟩⟩).old
 cases B
 · have HN : (E != 0) = true := by simp only [bne, HE]; rfl
   go_wp2_with fail
   refine bodyPost_ret (results_box2 rfl _ _ (w.heap.size + 1 + 1) _ _ _ rfl (HS.out _ _ _)) rfl ?_
   exact ⟨rfl, O0.out⟩
 · have HN : (E != 0) = false := by simp only [bne, HE]; rfl
   go_wp2_with fail
   refine bodyPost_ret (results_box2 rfl _ _ (w.heap.size + 1 + 1) _ _ _ rfl (HS.out _ _ _)) rfl ?_
   exact ⟨rfl, O1.out⟩
set_option maxRecDepth 100000 in
set_option maxHeartbeats 4000000 in
theorem rtaken_false1 (nl : Bool) (key : ByteArray) (z : Int) (w : World) : Calls Tryz.prog 50 #[Ty 1 nl, Nv ⟨2, key, 0, ⟨#[]⟩⟩ z] w (Ret (saidV (takenC vU 1 nl ⟨2, key, 0, ⟨#[]⟩⟩)) w) := by
 rw [taken_said (nl := nl) (show saidC 1 ⟨2, key, 0, ⟨#[]⟩⟩ = some ⟨false, 0, ⟨#[]⟩⟩ from rfl)]
 have CK := hide (fun (w' : World) => rcheck_run 1 nl ⟨false, 0, ⟨#[]⟩⟩ wf_s w')
 have HE := err_ok (k := 1) (nl := nl) (c := ⟨false, 0, ⟨#[]⟩⟩) (by first | decide | assumption)
 generalize cellErr vU 1 nl ⟨false, 0, ⟨#[]⟩⟩ = E at *
 generalize cellOk vU 1 nl ⟨false, 0, ⟨#[]⟩⟩ = B at *
 unfold Ret Cl Ty at CK
 simp only at CK
 unfold Ty Nv Ret saidV
 go_enter Tryz.func50, Tryz.ntmps50
 go_wp2_with fail
 have S0 := hide (SB.start w 1 nl (.cells #[.int .i64 2, .string key, .int .i64 0, .string ⟨#[]⟩, .int .i64 z] 36) ⟨false, 0, ⟨#[]⟩⟩)
 obtain ⟨W, hW⟩ : ∃ W, W = ((((w.alloc (.cells #[.int .i64 1, .bool nl] 54)).alloc (.cells #[.int .i64 2, .string key, .int .i64 0, .string ⟨#[]⟩, .int .i64 z] 36)).alloc (.cells #[.bool false, .int .i64 0, .string ⟨#[]⟩] 38)).alloc (.cells #[.bool false, .int .i64 0, .string ⟨#[]⟩] 38)) := ⟨_, rfl⟩
 rw [← hW] at S0 ⊢
 clear hW
 refine (CK.out _).mono ?_
 rintro e w5 ⟨rfl, o5⟩
 have S5 := hide (S0.out.step o5)
 clear o5 CK
 obtain ⟨x0, x1, x2⟩ := S5.out.val.cells
 obtain ⟨d, hdd⟩ := S5.out.res
 obtain ⟨r0, r1, r2⟩ := hdd.cells
 have fz := hdd.free
 have HS := hide (fun v0 v1 v2 => set3_heap hdd v0 v1 v2)
 have O0 := hide (S5.out.store ⟨false, 0, ⟨#[]⟩⟩).old
 have O1 := hide (S5.out.store ⟨false, 0, ⟨#[]⟩⟩).old
 cases B
 · have HN : (E != 0) = true := by simp only [bne, HE]; rfl
   go_wp2_with fail
   refine bodyPost_ret (results_box2 rfl _ _ (w.heap.size + 1 + 1) _ _ _ rfl (HS.out _ _ _)) rfl ?_
   exact ⟨rfl, O0.out⟩
 · have HN : (E != 0) = false := by simp only [bne, HE]; rfl
   go_wp2_with fail
   refine bodyPost_ret (results_box2 rfl _ _ (w.heap.size + 1 + 1) _ _ _ rfl (HS.out _ _ _)) rfl ?_
   exact ⟨rfl, O1.out⟩
set_option maxRecDepth 100000 in
set_option maxHeartbeats 4000000 in
theorem rtaken_falsen (k : Int) (nl : Bool) (key : ByteArray) (z : Int) (h1 : k ≠ 1) (w : World) : Calls Tryz.prog 50 #[Ty k nl, Nv ⟨2, key, 0, ⟨#[]⟩⟩ z] w (Ret (saidV (takenC vU k nl ⟨2, key, 0, ⟨#[]⟩⟩)) w) := by
 rw [taken_none (nl := nl) (show saidC k ⟨2, key, 0, ⟨#[]⟩⟩ = none from by simp [saidC, h1])]
 have k1 : (k == 1) = false := beq_eq_false_iff_ne.2 h1
 unfold Ty Nv Ret saidV
 go_enter Tryz.func50, Tryz.ntmps50
 go_wp2_with fail
 refine bodyPost_ret (results_box2 rfl _ _ (w.heap.size + 1 + 1) _ _ _ rfl (sb_zero w k nl _ _)) rfl ?_
 exact ⟨rfl, Old.alloc (Old.alloc (Old.alloc (Old.alloc (Old.refl _) _) _) _) _⟩
set_option maxRecDepth 100000 in
set_option maxHeartbeats 4000000 in
theorem rtaken_true1 (nl : Bool) (key : ByteArray) (z : Int) (w : World) : Calls Tryz.prog 50 #[Ty 1 nl, Nv ⟨3, key, 0, ⟨#[]⟩⟩ z] w (Ret (saidV (takenC vU 1 nl ⟨3, key, 0, ⟨#[]⟩⟩)) w) := by
 rw [taken_said (nl := nl) (show saidC 1 ⟨3, key, 0, ⟨#[]⟩⟩ = some ⟨false, 1, ⟨#[]⟩⟩ from rfl)]
 have CK := hide (fun (w' : World) => rcheck_run 1 nl ⟨false, 1, ⟨#[]⟩⟩ wf_1 w')
 have HE := err_ok (k := 1) (nl := nl) (c := ⟨false, 1, ⟨#[]⟩⟩) (by first | decide | assumption)
 generalize cellErr vU 1 nl ⟨false, 1, ⟨#[]⟩⟩ = E at *
 generalize cellOk vU 1 nl ⟨false, 1, ⟨#[]⟩⟩ = B at *
 unfold Ret Cl Ty at CK
 simp only at CK
 unfold Ty Nv Ret saidV
 go_enter Tryz.func50, Tryz.ntmps50
 go_wp2_with fail
 have S0 := hide (SB.start w 1 nl (.cells #[.int .i64 3, .string key, .int .i64 0, .string ⟨#[]⟩, .int .i64 z] 36) ⟨false, 1, ⟨#[]⟩⟩)
 obtain ⟨W, hW⟩ : ∃ W, W = ((((w.alloc (.cells #[.int .i64 1, .bool nl] 54)).alloc (.cells #[.int .i64 3, .string key, .int .i64 0, .string ⟨#[]⟩, .int .i64 z] 36)).alloc (.cells #[.bool false, .int .i64 0, .string ⟨#[]⟩] 38)).alloc (.cells #[.bool false, .int .i64 1, .string ⟨#[]⟩] 38)) := ⟨_, rfl⟩
 rw [← hW] at S0 ⊢
 clear hW
 refine (CK.out _).mono ?_
 rintro e w5 ⟨rfl, o5⟩
 have S5 := hide (S0.out.step o5)
 clear o5 CK
 obtain ⟨x0, x1, x2⟩ := S5.out.val.cells
 obtain ⟨d, hdd⟩ := S5.out.res
 obtain ⟨r0, r1, r2⟩ := hdd.cells
 have fz := hdd.free
 have HS := hide (fun v0 v1 v2 => set3_heap hdd v0 v1 v2)
 have O0 := hide (S5.out.store ⟨false, 0, ⟨#[]⟩⟩).old
 have O1 := hide (S5.out.store ⟨false, 1, ⟨#[]⟩⟩).old
 cases B
 · have HN : (E != 0) = true := by simp only [bne, HE]; rfl
   go_wp2_with fail
   refine bodyPost_ret (results_box2 rfl _ _ (w.heap.size + 1 + 1) _ _ _ rfl (HS.out _ _ _)) rfl ?_
   exact ⟨rfl, O0.out⟩
 · have HN : (E != 0) = false := by simp only [bne, HE]; rfl
   go_wp2_with fail
   refine bodyPost_ret (results_box2 rfl _ _ (w.heap.size + 1 + 1) _ _ _ rfl (HS.out _ _ _)) rfl ?_
   exact ⟨rfl, O1.out⟩
set_option maxRecDepth 100000 in
set_option maxHeartbeats 4000000 in
theorem rtaken_truen (k : Int) (nl : Bool) (key : ByteArray) (z : Int) (h1 : k ≠ 1) (w : World) : Calls Tryz.prog 50 #[Ty k nl, Nv ⟨3, key, 0, ⟨#[]⟩⟩ z] w (Ret (saidV (takenC vU k nl ⟨3, key, 0, ⟨#[]⟩⟩)) w) := by
 rw [taken_none (nl := nl) (show saidC k ⟨3, key, 0, ⟨#[]⟩⟩ = none from by simp [saidC, h1])]
 have k1 : (k == 1) = false := beq_eq_false_iff_ne.2 h1
 unfold Ty Nv Ret saidV
 go_enter Tryz.func50, Tryz.ntmps50
 go_wp2_with fail
 refine bodyPost_ret (results_box2 rfl _ _ (w.heap.size + 1 + 1) _ _ _ rfl (sb_zero w k nl _ _)) rfl ?_
 exact ⟨rfl, Old.alloc (Old.alloc (Old.alloc (Old.alloc (Old.refl _) _) _) _) _⟩
set_option maxRecDepth 100000 in
set_option maxHeartbeats 4000000 in
theorem rtaken_num2 (nl : Bool) (key : ByteArray) (n z : Int) (hn : Wf ⟨false, n, ⟨#[]⟩⟩) (w : World) : Calls Tryz.prog 50 #[Ty 2 nl, Nv ⟨4, key, n, ⟨#[]⟩⟩ z] w (Ret (saidV (takenC vU 2 nl ⟨4, key, n, ⟨#[]⟩⟩)) w) := by
 rw [taken_said (nl := nl) (show saidC 2 ⟨4, key, n, ⟨#[]⟩⟩ = some ⟨false, n, ⟨#[]⟩⟩ from rfl)]
 have CK := hide (fun (w' : World) => rcheck_run 2 nl ⟨false, n, ⟨#[]⟩⟩ hn w')
 have HE := err_ok (k := 2) (nl := nl) (c := ⟨false, n, ⟨#[]⟩⟩) (by first | decide | assumption)
 generalize cellErr vU 2 nl ⟨false, n, ⟨#[]⟩⟩ = E at *
 generalize cellOk vU 2 nl ⟨false, n, ⟨#[]⟩⟩ = B at *
 unfold Ret Cl Ty at CK
 simp only at CK
 unfold Ty Nv Ret saidV
 go_enter Tryz.func50, Tryz.ntmps50
 go_wp2_with fail
 have S0 := hide (SB.start w 2 nl (.cells #[.int .i64 4, .string key, .int .i64 n, .string ⟨#[]⟩, .int .i64 z] 36) ⟨false, n, ⟨#[]⟩⟩)
 obtain ⟨W, hW⟩ : ∃ W, W = ((((w.alloc (.cells #[.int .i64 2, .bool nl] 54)).alloc (.cells #[.int .i64 4, .string key, .int .i64 n, .string ⟨#[]⟩, .int .i64 z] 36)).alloc (.cells #[.bool false, .int .i64 0, .string ⟨#[]⟩] 38)).alloc (.cells #[.bool false, .int .i64 n, .string ⟨#[]⟩] 38)) := ⟨_, rfl⟩
 rw [← hW] at S0 ⊢
 clear hW
 refine (CK.out _).mono ?_
 rintro e w5 ⟨rfl, o5⟩
 have S5 := hide (S0.out.step o5)
 clear o5 CK
 obtain ⟨x0, x1, x2⟩ := S5.out.val.cells
 obtain ⟨d, hdd⟩ := S5.out.res
 obtain ⟨r0, r1, r2⟩ := hdd.cells
 have fz := hdd.free
 have HS := hide (fun v0 v1 v2 => set3_heap hdd v0 v1 v2)
 have O0 := hide (S5.out.store ⟨false, 0, ⟨#[]⟩⟩).old
 have O1 := hide (S5.out.store ⟨false, n, ⟨#[]⟩⟩).old
 cases B
 · have HN : (E != 0) = true := by simp only [bne, HE]; rfl
   go_wp2_with fail
   refine bodyPost_ret (results_box2 rfl _ _ (w.heap.size + 1 + 1) _ _ _ rfl (HS.out _ _ _)) rfl ?_
   exact ⟨rfl, O0.out⟩
 · have HN : (E != 0) = false := by simp only [bne, HE]; rfl
   go_wp2_with fail
   refine bodyPost_ret (results_box2 rfl _ _ (w.heap.size + 1 + 1) _ _ _ rfl (HS.out _ _ _)) rfl ?_
   exact ⟨rfl, O1.out⟩
set_option maxRecDepth 100000 in
set_option maxHeartbeats 4000000 in
theorem rtaken_num3 (nl : Bool) (key : ByteArray) (n z : Int) (hn : Wf ⟨false, n, ⟨#[]⟩⟩) (w : World) : Calls Tryz.prog 50 #[Ty 3 nl, Nv ⟨4, key, n, ⟨#[]⟩⟩ z] w (Ret (saidV (takenC vU 3 nl ⟨4, key, n, ⟨#[]⟩⟩)) w) := by
 rw [taken_said (nl := nl) (show saidC 3 ⟨4, key, n, ⟨#[]⟩⟩ = some ⟨false, n, ⟨#[]⟩⟩ from rfl)]
 have CK := hide (fun (w' : World) => rcheck_run 3 nl ⟨false, n, ⟨#[]⟩⟩ hn w')
 have HE := err_ok (k := 3) (nl := nl) (c := ⟨false, n, ⟨#[]⟩⟩) (by first | decide | assumption)
 generalize cellErr vU 3 nl ⟨false, n, ⟨#[]⟩⟩ = E at *
 generalize cellOk vU 3 nl ⟨false, n, ⟨#[]⟩⟩ = B at *
 unfold Ret Cl Ty at CK
 simp only at CK
 unfold Ty Nv Ret saidV
 go_enter Tryz.func50, Tryz.ntmps50
 go_wp2_with fail
 have S0 := hide (SB.start w 3 nl (.cells #[.int .i64 4, .string key, .int .i64 n, .string ⟨#[]⟩, .int .i64 z] 36) ⟨false, n, ⟨#[]⟩⟩)
 obtain ⟨W, hW⟩ : ∃ W, W = ((((w.alloc (.cells #[.int .i64 3, .bool nl] 54)).alloc (.cells #[.int .i64 4, .string key, .int .i64 n, .string ⟨#[]⟩, .int .i64 z] 36)).alloc (.cells #[.bool false, .int .i64 0, .string ⟨#[]⟩] 38)).alloc (.cells #[.bool false, .int .i64 n, .string ⟨#[]⟩] 38)) := ⟨_, rfl⟩
 rw [← hW] at S0 ⊢
 clear hW
 refine (CK.out _).mono ?_
 rintro e w5 ⟨rfl, o5⟩
 have S5 := hide (S0.out.step o5)
 clear o5 CK
 obtain ⟨x0, x1, x2⟩ := S5.out.val.cells
 obtain ⟨d, hdd⟩ := S5.out.res
 obtain ⟨r0, r1, r2⟩ := hdd.cells
 have fz := hdd.free
 have HS := hide (fun v0 v1 v2 => set3_heap hdd v0 v1 v2)
 have O0 := hide (S5.out.store ⟨false, 0, ⟨#[]⟩⟩).old
 have O1 := hide (S5.out.store ⟨false, n, ⟨#[]⟩⟩).old
 cases B
 · have HN : (E != 0) = true := by simp only [bne, HE]; rfl
   go_wp2_with fail
   refine bodyPost_ret (results_box2 rfl _ _ (w.heap.size + 1 + 1) _ _ _ rfl (HS.out _ _ _)) rfl ?_
   exact ⟨rfl, O0.out⟩
 · have HN : (E != 0) = false := by simp only [bne, HE]; rfl
   go_wp2_with fail
   refine bodyPost_ret (results_box2 rfl _ _ (w.heap.size + 1 + 1) _ _ _ rfl (HS.out _ _ _)) rfl ?_
   exact ⟨rfl, O1.out⟩
set_option maxRecDepth 100000 in
set_option maxHeartbeats 4000000 in
theorem rtaken_numn (k : Int) (nl : Bool) (key : ByteArray) (n z : Int) (h2 : k ≠ 2) (h3 : k ≠ 3) (w : World) : Calls Tryz.prog 50 #[Ty k nl, Nv ⟨4, key, n, ⟨#[]⟩⟩ z] w (Ret (saidV (takenC vU k nl ⟨4, key, n, ⟨#[]⟩⟩)) w) := by
 rw [taken_none (nl := nl) (show saidC k ⟨4, key, n, ⟨#[]⟩⟩ = none from by simp [saidC, h2, h3])]
 have k2 : (k == 2) = false := beq_eq_false_iff_ne.2 h2
 have k3 : (k == 3) = false := beq_eq_false_iff_ne.2 h3
 unfold Ty Nv Ret saidV
 go_enter Tryz.func50, Tryz.ntmps50
 go_wp2_with fail
 refine bodyPost_ret (results_box2 rfl _ _ (w.heap.size + 1 + 1) _ _ _ rfl (sb_zero w k nl _ _)) rfl ?_
 exact ⟨rfl, Old.alloc (Old.alloc (Old.alloc (Old.alloc (Old.refl _) _) _) _) _⟩
set_option maxRecDepth 100000 in
set_option maxHeartbeats 4000000 in
theorem rtaken_str4 (nl : Bool) (key s : ByteArray) (z : Int) (w : World) : Calls Tryz.prog 50 #[Ty 4 nl, Nv ⟨5, key, 0, s⟩ z] w (Ret (saidV (takenC vU 4 nl ⟨5, key, 0, s⟩)) w) := by
 rw [taken_said (nl := nl) (show saidC 4 ⟨5, key, 0, s⟩ = some ⟨false, 0, s⟩ from rfl)]
 have CK := hide (fun (w' : World) => rcheck_run 4 nl ⟨false, 0, s⟩ wf_s w')
 have HE := err_ok (k := 4) (nl := nl) (c := ⟨false, 0, s⟩) (by first | decide | assumption)
 generalize cellErr vU 4 nl ⟨false, 0, s⟩ = E at *
 generalize cellOk vU 4 nl ⟨false, 0, s⟩ = B at *
 unfold Ret Cl Ty at CK
 simp only at CK
 unfold Ty Nv Ret saidV
 go_enter Tryz.func50, Tryz.ntmps50
 go_wp2_with fail
 have S0 := hide (SB.start w 4 nl (.cells #[.int .i64 5, .string key, .int .i64 0, .string s, .int .i64 z] 36) ⟨false, 0, s⟩)
 obtain ⟨W, hW⟩ : ∃ W, W = ((((w.alloc (.cells #[.int .i64 4, .bool nl] 54)).alloc (.cells #[.int .i64 5, .string key, .int .i64 0, .string s, .int .i64 z] 36)).alloc (.cells #[.bool false, .int .i64 0, .string ⟨#[]⟩] 38)).alloc (.cells #[.bool false, .int .i64 0, .string s] 38)) := ⟨_, rfl⟩
 rw [← hW] at S0 ⊢
 clear hW
 refine (CK.out _).mono ?_
 rintro e w5 ⟨rfl, o5⟩
 have S5 := hide (S0.out.step o5)
 clear o5 CK
 obtain ⟨x0, x1, x2⟩ := S5.out.val.cells
 obtain ⟨d, hdd⟩ := S5.out.res
 obtain ⟨r0, r1, r2⟩ := hdd.cells
 have fz := hdd.free
 have HS := hide (fun v0 v1 v2 => set3_heap hdd v0 v1 v2)
 have O0 := hide (S5.out.store ⟨false, 0, ⟨#[]⟩⟩).old
 have O1 := hide (S5.out.store ⟨false, 0, s⟩).old
 cases B
 · have HN : (E != 0) = true := by simp only [bne, HE]; rfl
   go_wp2_with fail
   refine bodyPost_ret (results_box2 rfl _ _ (w.heap.size + 1 + 1) _ _ _ rfl (HS.out _ _ _)) rfl ?_
   exact ⟨rfl, O0.out⟩
 · have HN : (E != 0) = false := by simp only [bne, HE]; rfl
   go_wp2_with fail
   refine bodyPost_ret (results_box2 rfl _ _ (w.heap.size + 1 + 1) _ _ _ rfl (HS.out _ _ _)) rfl ?_
   exact ⟨rfl, O1.out⟩
set_option maxRecDepth 100000 in
set_option maxHeartbeats 4000000 in
theorem rtaken_strn (k : Int) (nl : Bool) (key s : ByteArray) (z : Int) (h4 : k ≠ 4) (h5 : k ≠ 5) (w : World) : Calls Tryz.prog 50 #[Ty k nl, Nv ⟨5, key, 0, s⟩ z] w (Ret (saidV (takenC vU k nl ⟨5, key, 0, s⟩)) w) := by
 rw [taken_none (nl := nl) (show saidC k ⟨5, key, 0, s⟩ = none from by simp [saidC, h4, h5])]
 have k4 : (k == 4) = false := beq_eq_false_iff_ne.2 h4
 have k5 : (k == 5) = false := beq_eq_false_iff_ne.2 h5
 unfold Ty Nv Ret saidV
 go_enter Tryz.func50, Tryz.ntmps50
 go_wp2_with fail
 refine bodyPost_ret (results_box2 rfl _ _ (w.heap.size + 1 + 1) _ _ _ rfl (sb_zero w k nl _ _)) rfl ?_
 exact ⟨rfl, Old.alloc (Old.alloc (Old.alloc (Old.alloc (Old.refl _) _) _) _) _⟩
set_option maxRecDepth 100000 in
set_option maxHeartbeats 4000000 in
theorem rtaken_6 (k : Int) (nl : Bool) (key : ByteArray) (z : Int) (w : World) : Calls Tryz.prog 50 #[Ty k nl, Nv ⟨6, key, 0, ⟨#[]⟩⟩ z] w (Ret (saidV (takenC vU k nl ⟨6, key, 0, ⟨#[]⟩⟩)) w) := by
 rw [taken_none (nl := nl) (show saidC k ⟨6, key, 0, ⟨#[]⟩⟩ = none from by simp [saidC])]
 unfold Ty Nv Ret saidV
 go_enter Tryz.func50, Tryz.ntmps50
 go_wp2_with fail
 refine bodyPost_ret (results_box2 rfl _ _ (w.heap.size + 1 + 1) _ _ _ rfl (sb_zero w k nl _ _)) rfl ?_
 exact ⟨rfl, Old.alloc (Old.alloc (Old.alloc (Old.alloc (Old.refl _) _) _) _) _⟩
set_option maxRecDepth 100000 in
set_option maxHeartbeats 4000000 in
theorem rtaken_7 (k : Int) (nl : Bool) (key : ByteArray) (z : Int) (w : World) : Calls Tryz.prog 50 #[Ty k nl, Nv ⟨7, key, 0, ⟨#[]⟩⟩ z] w (Ret (saidV (takenC vU k nl ⟨7, key, 0, ⟨#[]⟩⟩)) w) := by
 rw [taken_none (nl := nl) (show saidC k ⟨7, key, 0, ⟨#[]⟩⟩ = none from by simp [saidC])]
 unfold Ty Nv Ret saidV
 go_enter Tryz.func50, Tryz.ntmps50
 go_wp2_with fail
 refine bodyPost_ret (results_box2 rfl _ _ (w.heap.size + 1 + 1) _ _ _ rfl (sb_zero w k nl _ _)) rfl ?_
 exact ⟨rfl, Old.alloc (Old.alloc (Old.alloc (Old.alloc (Old.refl _) _) _) _) _⟩
set_option maxRecDepth 100000 in
set_option maxHeartbeats 4000000 in
theorem rtaken_bytes (nl : Bool) (key s : ByteArray) (z : Int) (hs : s.size ≤ 1073741824) (w : World) : Calls Tryz.prog 50 #[Ty 5 nl, Nv ⟨5, key, 0, s⟩ z] w (Ret (saidV (takenC vU 5 nl ⟨5, key, 0, s⟩)) w) := by
 have CU := hide (fun w' => runhex_run s hs w')
 unfold Ret unhexR at CU
 cases hu : unhexL s.data.toList with
 | some r =>
   rw [hu] at CU
   rw [taken_said (nl := nl) (show saidC 5 ⟨5, key, 0, s⟩ = some ⟨false, 0, ⟨r.toArray⟩⟩ by rw [said_5, hu]; rfl)]
   simp only at CU
   generalize (⟨r.toArray⟩ : ByteArray) = P at *
   clear hu
   have CK := hide (fun (w' : World) => rcheck_run 5 nl ⟨false, 0, P⟩ wf_s w')
   have HE := err_ok (k := 5) (nl := nl) (c := ⟨false, 0, P⟩) (by decide)
   generalize cellErr vU 5 nl ⟨false, 0, P⟩ = E at *
   generalize cellOk vU 5 nl ⟨false, 0, P⟩ = B at *
   unfold Ret Cl Ty at CK
   simp only at CK
   unfold Ty Nv Ret saidV
   go_enter Tryz.func50, Tryz.ntmps50
   go_wp2_with fail
   have S0 := hide (SB.start w 5 nl (.cells #[.int .i64 5, .string key, .int .i64 0, .string s, .int .i64 z] 36) ⟨false, 0, s⟩)
   obtain ⟨W, hW⟩ : ∃ W, W = ((((w.alloc (.cells #[.int .i64 5, .bool nl] 54)).alloc (.cells #[.int .i64 5, .string key, .int .i64 0, .string s, .int .i64 z] 36)).alloc (.cells #[.bool false, .int .i64 0, .string ⟨#[]⟩] 38)).alloc (.cells #[.bool false, .int .i64 0, .string s] 38)) := ⟨_, rfl⟩
   rw [← hW] at S0 ⊢
   clear hW
   refine (CU.out _).mono ?_
   rintro e w4 ⟨rfl, o4⟩
   have S4 := hide (S0.out.step o4)
   clear o4 CU S0
   obtain ⟨x0, x1, x2⟩ := S4.out.val.cells
   have fz := S4.out.val.free
   have t0 := (cell_of_heap (i := 0) S4.out.ty).trans rfl
   have t1 := (cell_of_heap (i := 1) S4.out.ty).trans rfl
   go_upto_region 20 with fail
   have S6 := hide (S4.out.valset2 P)
   obtain ⟨w6, hw6⟩ : ∃ w6, w6 = w4.setCell ⟨w.heap.size + 1 + 1 + 1, 2, none⟩ (.string P) := ⟨_, rfl⟩
   rw [← hw6] at S6 ⊢
   clear hw6 S4 x0 x1 x2 fz t0 t1
   obtain ⟨x0, x1, x2⟩ := S6.out.val.cells
   have t0 := (cell_of_heap (i := 0) S6.out.ty).trans rfl
   have t1 := (cell_of_heap (i := 1) S6.out.ty).trans rfl
   go_wp2_with fail
   refine (CK.out _).mono ?_
   rintro e w5 ⟨rfl, o5⟩
   have S5 := hide (S6.out.step o5)
   clear o5 CK
   obtain ⟨x0, x1, x2⟩ := S5.out.val.cells
   obtain ⟨d, hdd⟩ := S5.out.res
   obtain ⟨r0, r1, r2⟩ := hdd.cells
   have fz := hdd.free
   have HS := hide (fun v0 v1 v2 => set3_heap hdd v0 v1 v2)
   have O0 := hide (S5.out.store ⟨false, 0, ⟨#[]⟩⟩).old
   have O1 := hide (S5.out.store ⟨false, 0, P⟩).old
   cases B
   · have HN : (E != 0) = true := by simp only [bne, HE]; rfl
     go_wp2_with fail
     refine bodyPost_ret (results_box2 rfl _ _ (w.heap.size + 1 + 1) _ _ _ rfl (HS.out _ _ _)) rfl ?_
     exact ⟨rfl, O0.out⟩
   · have HN : (E != 0) = false := by simp only [bne, HE]; rfl
     go_wp2_with fail
     refine bodyPost_ret (results_box2 rfl _ _ (w.heap.size + 1 + 1) _ _ _ rfl (HS.out _ _ _)) rfl ?_
     exact ⟨rfl, O1.out⟩
 | none =>
   rw [hu] at CU
   rw [taken_none (nl := nl) (show saidC 5 ⟨5, key, 0, s⟩ = none by rw [said_5, hu]; rfl)]
   simp only at CU
   clear hu
   unfold Ty Nv Ret saidV
   go_enter Tryz.func50, Tryz.ntmps50
   go_wp2_with fail
   have S0 := hide (SB.start w 5 nl (.cells #[.int .i64 5, .string key, .int .i64 0, .string s, .int .i64 z] 36) ⟨false, 0, s⟩)
   obtain ⟨W, hW⟩ : ∃ W, W = ((((w.alloc (.cells #[.int .i64 5, .bool nl] 54)).alloc (.cells #[.int .i64 5, .string key, .int .i64 0, .string s, .int .i64 z] 36)).alloc (.cells #[.bool false, .int .i64 0, .string ⟨#[]⟩] 38)).alloc (.cells #[.bool false, .int .i64 0, .string s] 38)) := ⟨_, rfl⟩
   rw [← hW] at S0 ⊢
   clear hW
   refine (CU.out _).mono ?_
   rintro e w4 ⟨rfl, o4⟩
   have S4 := hide (S0.out.step o4)
   clear o4 CU S0
   obtain ⟨x0, x1, x2⟩ := S4.out.val.cells
   have fz := S4.out.val.free
   go_upto_region 20 with fail
   have S6 := hide (S4.out.valset2 ⟨#[]⟩)
   obtain ⟨w6, hw6⟩ : ∃ w6, w6 = w4.setCell ⟨w.heap.size + 1 + 1 + 1, 2, none⟩ (.string ⟨#[]⟩) := ⟨_, rfl⟩
   rw [← hw6] at S6 ⊢
   clear hw6 S4 x0 x1 x2 fz
   obtain ⟨d, hdd⟩ := S6.out.res
   obtain ⟨r0, r1, r2⟩ := hdd.cells
   have fz := hdd.free
   have O0 := hide (S6.out.store ⟨false, 0, ⟨#[]⟩⟩).old
   go_wp2_with fail
   refine bodyPost_ret (results_box2 rfl _ _ (w.heap.size + 1 + 1) _ _ _ rfl (set3_heap hdd _ _ _)) rfl ?_
   exact ⟨rfl, O0.out⟩
theorem rtaken_run (k : Int) (nl : Bool) (h : Hd) (z : Int) (hk : mayK k = true) (ho : HdOk h) (hs : h.s.size ≤ 1073741824) (hn : -9223372036854775808 ≤ h.n ∧ h.n ≤ 9223372036854775807) (w : World) : Calls Tryz.prog 50 #[Ty k nl, Nv h z] w (Ret (saidV (takenC vU k nl h)) w) := by
 obtain ⟨kind, key, n, s⟩ := h
 simp only at hs hn
 rcases ho with (⟨h1 | h1 | h1, h2, h3⟩ | ⟨h1, h2⟩ | ⟨h1, h2, h3⟩) | ⟨h1 | h1, h2, h3⟩
 all_goals simp only at h1 h2
 · subst h1
   exact rtaken_null k nl key s n z hk w
 · simp only at h3
   subst h1 h2 h3
   by_cases e : k = 1
   · subst e
     exact rtaken_false1 nl key z w
   · exact rtaken_falsen k nl key z e w
 · simp only at h3
   subst h1 h2 h3
   by_cases e : k = 1
   · subst e
     exact rtaken_true1 nl key z w
   · exact rtaken_truen k nl key z e w
 · subst h1 h2
   by_cases e : k = 2
   · subst e
     exact rtaken_num2 nl key n z hn w
   · by_cases e3 : k = 3
     · subst e3
       exact rtaken_num3 nl key n z hn w
     · exact rtaken_numn k nl key n z e e3 w
 · subst h1 h2
   by_cases e : k = 4
   · subst e
     exact rtaken_str4 nl key s z w
   · by_cases e5 : k = 5
     · subst e5
       exact rtaken_bytes nl key s z hs w
     · exact rtaken_strn k nl key s z e e5 w
 · simp only at h3
   subst h1 h2 h3
   exact rtaken_6 k nl key z w
 · simp only at h3
   subst h1 h2 h3
   exact rtaken_7 k nl key z w
end Go.Proofs.YthlfljmfggmfdaaGreatDoor
