/-  -/
import Derived.Test.YthlfljmfggmfdaaGreatDoorQk13
import Derived.Deep.RegionHeld3
import Derived.Test.YthlfljmfggmfdaaGreatDoorQk14
/-! ###  -/
namespace Go.Proofs.YthlfljmfggmfdaaGreatDoor
open Go.RowKit
abbrev Pl (p q : Nat) : Value := .func (.func 130) #[] #[.pointer (some ⟨p, 0, none⟩), .pointer (some ⟨q, 0, none⟩)]
def OfPl (lo hi : Int) (w : World) (e : Ending) (w' : World) : Prop := ∃ p q v1 v2 v3 v4, e = .returned (.agg #[Pl p q, v1, v2, v3, v4]) ∧ w'.cell? ⟨p, 0, none⟩ = some (.int .i64 lo) ∧ w'.cell? ⟨q, 0, none⟩ = some (.int .i64 hi) ∧ Old w w'
theorem of_1 (nl : Bool) (w : World) : Calls Tryz.prog 107 #[Ty 1 nl] w (OfPl 0 1 w) := by
 refine (of_run 1 (by omega) (by omega) nl w).mono ?_
 rintro e w' ⟨v, rfl, ⟨f1, f2, f3, b, rfl, h1, h2, h3, _⟩, o⟩
 obtain ⟨p, q, rfl, hp, hq⟩ := h1
 exact ⟨p, q, _, _, _, _, rfl, hp, hq, o⟩
theorem of_2 (nl : Bool) (w : World) : Calls Tryz.prog 107 #[Ty 2 nl] w (OfPl (-2147483648) 2147483647 w) := by
 refine (of_run 2 (by omega) (by omega) nl w).mono ?_
 rintro e w' ⟨v, rfl, ⟨f1, f2, f3, b, rfl, h1, h2, h3, _⟩, o⟩
 obtain ⟨p, q, rfl, hp, hq⟩ := h2
 exact ⟨p, q, _, _, _, _, rfl, hp, hq, o⟩
theorem of_3 (nl : Bool) (w : World) : Calls Tryz.prog 107 #[Ty 3 nl] w (OfPl (-9223372036854775808) 9223372036854775807 w) := by
 refine (of_run 3 (by omega) (by omega) nl w).mono ?_
 rintro e w' ⟨v, rfl, ⟨f1, f2, f3, b, rfl, h1, h2, h3, _⟩, o⟩
 obtain ⟨p, q, rfl, hp, hq⟩ := h3
 exact ⟨p, q, _, _, _, _, rfl, hp, hq, o⟩
theorem of_4 (nl : Bool) (w : World) : Calls Tryz.prog 107 #[Ty 4 nl] w fun e w' => ∃ b v1 v2 v3 v4, e = .returned (.agg #[Tx b, v1, v2, v3, v4]) ∧ w'.cell? ⟨b, 0, none⟩ = some (Fv 131) ∧ Old w w' := by
 refine (of_run 4 (by omega) (by omega) nl w).mono ?_
 rintro e w' ⟨v, rfl, ⟨f1, f2, f3, b, rfl, _, _, _, hb⟩, o⟩
 exact ⟨b, _, _, _, _, rfl, hb, o⟩
theorem of_5 (nl : Bool) (w : World) : Calls Tryz.prog 107 #[Ty 5 nl] w (Ret (.agg #[Fv 131, Fv 146, Fv 147, Fv 144, Fv 145]) w) := by
 refine (of_run 5 (by omega) (by omega) nl w).mono ?_
 rintro e w' ⟨v, rfl, ⟨f1, f2, f3, b, rfl, _, _, _, hb⟩, o⟩
 exact ⟨rfl, o⟩
theorem field_0 (f v1 v2 v3 v4 : Value) (w : World) : (Instr.field 151 (.agg #[f, v1, v2, v3, v4]) 0).run Tryz.prog w = .ok f w := by kernel_rfl
theorem field_1 (f v1 v2 v3 v4 : Value) (w : World) : (Instr.field 151 (.agg #[f, v1, v2, v3, v4]) 1).run Tryz.prog w = .ok v1 w := by kernel_rfl
theorem field_2 (f v1 v2 v3 v4 : Value) (w : World) : (Instr.field 151 (.agg #[f, v1, v2, v3, v4]) 2).run Tryz.prog w = .ok v2 w := by kernel_rfl
theorem pl_1 (c : Cell) : plB 0 1 c = someOk vU 1 c := by simp [plB, someOk]
theorem pl_2 (c : Cell) : plB (-2147483648) 2147483647 c = someOk vU 2 c := by simp [plB, someOk]
theorem pl_3 (c : Cell) : plB (-9223372036854775808) 9223372036854775807 c = someOk vU 3 c := by simp [plB, someOk]
theorem sz_5 (c : Cell) : szB c = someOk vU 5 c := by simp [szB, someOk]
theorem tx_4 (c : Cell) : (szB c && vU c.s) = someOk vU 4 c := by simp [szB, someOk]
set_option maxRecDepth 100000 in
set_option maxHeartbeats 1000000 in
theorem check_1 (nl : Bool) (n : Int) (s : ByteArray) (w : World) (hT : Tabs w) : Calls Tryz.prog 74 #[Ty 1 nl, Cl ⟨false, n, s⟩] w (Ret (.int .i64 (if someOk vU 1 ⟨false, n, s⟩ then 0 else 90)) w) := by
 unfold Ret
 have HT := hide hT
 have CM := hide (fun w' => (show Calls Tryz.prog 43 #[Ty 1 nl] w' (Ret (.bool true) w') from may_run 1 nl w'))
 have CO := hide (fun w' => of_1 nl w')
 have CP := hide (fun p q w' hp hq => pl_1 ⟨false, n, s⟩ ▸ plain_runC 0 1 ⟨false, n, s⟩ p q w' hp hq)
 have hG := cellGuard
 have hfd := field_0
 generalize someOk vU 1 ⟨false, n, s⟩ = B at CP
 unfold Cl Ty
 go_enter Tryz.func74, Tryz.ntmps74
 go_wp2_with fail
 refine (CM.out _).mono ?_
 rintro e w1 ⟨rfl, o1⟩
 have y1 := fun (i : Nat) v (h : (w.alloc (.cells #[.int .i64 1, .bool nl] 54)).cell? ⟨w.heap.size, i, none⟩ = some v) => Old.cell o1 (Old.cell (Old.alloc (Old.refl _) _) h)
 have x0 := y1 0 _ (cell_of_heap (heap_alloc_new w _))
 have x1 := y1 1 _ (cell_of_heap (heap_alloc_new w _))
 clear y1
 have hsz : (w.alloc (.cells #[.int .i64 1, .bool nl] 54)).heap.size = w.heap.size + 1 := by simp
 have z1 : ∀ (i : Nat) v, (#[.bool false, .int .i64 n, .string s] : Array Value)[i]? = some v → w1.cell? ⟨w.heap.size + 1, i, none⟩ = some v := by
  intro i v h
  rw [← hsz]
  exact Old.cell o1 ((cell_of_heap (heap_alloc_new _ _)).trans h)
 have v0 := z1 0 _ rfl
 have v1 := z1 1 _ rfl
 have v2 := z1 2 _ rfl
 have O1 := hide (Old.trans (Old.alloc (Old.alloc (Old.refl w) _) _) o1)
 clear o1 z1 hsz
 have ho : Old w1 w1 := Old.refl _
 have g0 : ∀ w', Old w1 w' → w'.cell? ⟨w.heap.size, 0, none⟩ = some (.int .i64 1) := fun w' o => Old.cell o x0
 have g1 : ∀ w', Old w1 w' → w'.cell? ⟨w.heap.size, 1, none⟩ = some (.bool nl) := fun w' o => Old.cell o x1
 have u0 : ∀ w', Old w1 w' → w'.cell? ⟨w.heap.size + 1, 0, none⟩ = some (.bool false) := fun w' o => Old.cell o v0
 have u1 : ∀ w', Old w1 w' → w'.cell? ⟨w.heap.size + 1, 1, none⟩ = some (.int .i64 n) := fun w' o => Old.cell o v1
 have u2 : ∀ w', Old w1 w' → w'.cell? ⟨w.heap.size + 1, 2, none⟩ = some (.string s) := fun w' o => Old.cell o v2
 go_wp2_with fail
 go_region_held3 (fun w' => Old w1 w')
  (first | (exact Old.drew ho) | (exact Old.alloc (by assumption) _) | (exact Old.trans (by assumption) (by assumption)))
  (first
    | (go_at_call 107; (with_reducible refine (CO.out _).mono ?_); rintro e wa ⟨pp, qq, q1, q2, q3, q4, rfl, hp, hq, oa⟩)
    | (go_at_call 130; (with_reducible refine (CP.out _ _ _ (by assumption) (by assumption)).mono ?_); rintro e wb ⟨rfl, ob⟩)
    | (fail "none"))
 have O5 : Hid (Old w1 wb) := hide (by assumption)
 clear CO CP g0 g1 u0 u1 u2
 cases B
 · go_wp2_with fail
   go_ret
   exact ⟨rfl, Old.trans O1.out O5.out⟩
 · go_wp2_with fail
   go_ret
   exact ⟨rfl, Old.trans O1.out O5.out⟩
set_option maxRecDepth 100000 in
set_option maxHeartbeats 1000000 in
theorem check_2 (nl : Bool) (n : Int) (s : ByteArray) (w : World) (hT : Tabs w) : Calls Tryz.prog 74 #[Ty 2 nl, Cl ⟨false, n, s⟩] w (Ret (.int .i64 (if someOk vU 2 ⟨false, n, s⟩ then 0 else 90)) w) := by
 unfold Ret
 have HT := hide hT
 have CM := hide (fun w' => (show Calls Tryz.prog 43 #[Ty 2 nl] w' (Ret (.bool true) w') from may_run 2 nl w'))
 have CO := hide (fun w' => of_2 nl w')
 have CP := hide (fun p q w' hp hq => pl_2 ⟨false, n, s⟩ ▸ plain_runC (-2147483648) 2147483647 ⟨false, n, s⟩ p q w' hp hq)
 have hG := cellGuard
 have hfd := field_0
 generalize someOk vU 2 ⟨false, n, s⟩ = B at CP
 unfold Cl Ty
 go_enter Tryz.func74, Tryz.ntmps74
 go_wp2_with fail
 refine (CM.out _).mono ?_
 rintro e w1 ⟨rfl, o1⟩
 have y1 := fun (i : Nat) v (h : (w.alloc (.cells #[.int .i64 2, .bool nl] 54)).cell? ⟨w.heap.size, i, none⟩ = some v) => Old.cell o1 (Old.cell (Old.alloc (Old.refl _) _) h)
 have x0 := y1 0 _ (cell_of_heap (heap_alloc_new w _))
 have x1 := y1 1 _ (cell_of_heap (heap_alloc_new w _))
 clear y1
 have hsz : (w.alloc (.cells #[.int .i64 2, .bool nl] 54)).heap.size = w.heap.size + 1 := by simp
 have z1 : ∀ (i : Nat) v, (#[.bool false, .int .i64 n, .string s] : Array Value)[i]? = some v → w1.cell? ⟨w.heap.size + 1, i, none⟩ = some v := by
  intro i v h
  rw [← hsz]
  exact Old.cell o1 ((cell_of_heap (heap_alloc_new _ _)).trans h)
 have v0 := z1 0 _ rfl
 have v1 := z1 1 _ rfl
 have v2 := z1 2 _ rfl
 have O1 := hide (Old.trans (Old.alloc (Old.alloc (Old.refl w) _) _) o1)
 clear o1 z1 hsz
 have ho : Old w1 w1 := Old.refl _
 have g0 : ∀ w', Old w1 w' → w'.cell? ⟨w.heap.size, 0, none⟩ = some (.int .i64 2) := fun w' o => Old.cell o x0
 have g1 : ∀ w', Old w1 w' → w'.cell? ⟨w.heap.size, 1, none⟩ = some (.bool nl) := fun w' o => Old.cell o x1
 have u0 : ∀ w', Old w1 w' → w'.cell? ⟨w.heap.size + 1, 0, none⟩ = some (.bool false) := fun w' o => Old.cell o v0
 have u1 : ∀ w', Old w1 w' → w'.cell? ⟨w.heap.size + 1, 1, none⟩ = some (.int .i64 n) := fun w' o => Old.cell o v1
 have u2 : ∀ w', Old w1 w' → w'.cell? ⟨w.heap.size + 1, 2, none⟩ = some (.string s) := fun w' o => Old.cell o v2
 go_wp2_with fail
 go_region_held3 (fun w' => Old w1 w')
  (first | (exact Old.drew ho) | (exact Old.alloc (by assumption) _) | (exact Old.trans (by assumption) (by assumption)))
  (first
    | (go_at_call 107; (with_reducible refine (CO.out _).mono ?_); rintro e wa ⟨pp, qq, q1, q2, q3, q4, rfl, hp, hq, oa⟩)
    | (go_at_call 130; (with_reducible refine (CP.out _ _ _ (by assumption) (by assumption)).mono ?_); rintro e wb ⟨rfl, ob⟩)
    | (fail "none"))
 have O5 : Hid (Old w1 wb) := hide (by assumption)
 clear CO CP g0 g1 u0 u1 u2
 cases B
 · go_wp2_with fail
   go_ret
   exact ⟨rfl, Old.trans O1.out O5.out⟩
 · go_wp2_with fail
   go_ret
   exact ⟨rfl, Old.trans O1.out O5.out⟩
set_option maxRecDepth 100000 in
set_option maxHeartbeats 1000000 in
theorem check_3 (nl : Bool) (n : Int) (s : ByteArray) (w : World) (hT : Tabs w) : Calls Tryz.prog 74 #[Ty 3 nl, Cl ⟨false, n, s⟩] w (Ret (.int .i64 (if someOk vU 3 ⟨false, n, s⟩ then 0 else 90)) w) := by
 unfold Ret
 have HT := hide hT
 have CM := hide (fun w' => (show Calls Tryz.prog 43 #[Ty 3 nl] w' (Ret (.bool true) w') from may_run 3 nl w'))
 have CO := hide (fun w' => of_3 nl w')
 have CP := hide (fun p q w' hp hq => pl_3 ⟨false, n, s⟩ ▸ plain_runC (-9223372036854775808) 9223372036854775807 ⟨false, n, s⟩ p q w' hp hq)
 have hG := cellGuard
 have hfd := field_0
 generalize someOk vU 3 ⟨false, n, s⟩ = B at CP
 unfold Cl Ty
 go_enter Tryz.func74, Tryz.ntmps74
 go_wp2_with fail
 refine (CM.out _).mono ?_
 rintro e w1 ⟨rfl, o1⟩
 have y1 := fun (i : Nat) v (h : (w.alloc (.cells #[.int .i64 3, .bool nl] 54)).cell? ⟨w.heap.size, i, none⟩ = some v) => Old.cell o1 (Old.cell (Old.alloc (Old.refl _) _) h)
 have x0 := y1 0 _ (cell_of_heap (heap_alloc_new w _))
 have x1 := y1 1 _ (cell_of_heap (heap_alloc_new w _))
 clear y1
 have hsz : (w.alloc (.cells #[.int .i64 3, .bool nl] 54)).heap.size = w.heap.size + 1 := by simp
 have z1 : ∀ (i : Nat) v, (#[.bool false, .int .i64 n, .string s] : Array Value)[i]? = some v → w1.cell? ⟨w.heap.size + 1, i, none⟩ = some v := by
  intro i v h
  rw [← hsz]
  exact Old.cell o1 ((cell_of_heap (heap_alloc_new _ _)).trans h)
 have v0 := z1 0 _ rfl
 have v1 := z1 1 _ rfl
 have v2 := z1 2 _ rfl
 have O1 := hide (Old.trans (Old.alloc (Old.alloc (Old.refl w) _) _) o1)
 clear o1 z1 hsz
 have ho : Old w1 w1 := Old.refl _
 have g0 : ∀ w', Old w1 w' → w'.cell? ⟨w.heap.size, 0, none⟩ = some (.int .i64 3) := fun w' o => Old.cell o x0
 have g1 : ∀ w', Old w1 w' → w'.cell? ⟨w.heap.size, 1, none⟩ = some (.bool nl) := fun w' o => Old.cell o x1
 have u0 : ∀ w', Old w1 w' → w'.cell? ⟨w.heap.size + 1, 0, none⟩ = some (.bool false) := fun w' o => Old.cell o v0
 have u1 : ∀ w', Old w1 w' → w'.cell? ⟨w.heap.size + 1, 1, none⟩ = some (.int .i64 n) := fun w' o => Old.cell o v1
 have u2 : ∀ w', Old w1 w' → w'.cell? ⟨w.heap.size + 1, 2, none⟩ = some (.string s) := fun w' o => Old.cell o v2
 go_wp2_with fail
 go_region_held3 (fun w' => Old w1 w')
  (first | (exact Old.drew ho) | (exact Old.alloc (by assumption) _) | (exact Old.trans (by assumption) (by assumption)))
  (first
    | (go_at_call 107; (with_reducible refine (CO.out _).mono ?_); rintro e wa ⟨pp, qq, q1, q2, q3, q4, rfl, hp, hq, oa⟩)
    | (go_at_call 130; (with_reducible refine (CP.out _ _ _ (by assumption) (by assumption)).mono ?_); rintro e wb ⟨rfl, ob⟩)
    | (fail "none"))
 have O5 : Hid (Old w1 wb) := hide (by assumption)
 clear CO CP g0 g1 u0 u1 u2
 cases B
 · go_wp2_with fail
   go_ret
   exact ⟨rfl, Old.trans O1.out O5.out⟩
 · go_wp2_with fail
   go_ret
   exact ⟨rfl, Old.trans O1.out O5.out⟩
set_option maxRecDepth 100000 in
set_option maxHeartbeats 1000000 in
theorem check_4 (nl : Bool) (n : Int) (s : ByteArray) (w : World) (hT : Tabs w) : Calls Tryz.prog 74 #[Ty 4 nl, Cl ⟨false, n, s⟩] w (Ret (.int .i64 (if someOk vU 4 ⟨false, n, s⟩ then 0 else 90)) w) := by
 unfold Ret
 have HT := hide hT
 have CM := hide (fun w' => (show Calls Tryz.prog 43 #[Ty 4 nl] w' (Ret (.bool true) w') from may_run 4 nl w'))
 have CO := hide (fun w' => of_4 nl w')
 have CP := hide (fun p w' hp (o : Old w w') => tx_4 ⟨false, n, s⟩ ▸ text_run ⟨false, n, s⟩ p w' hp (HT.out.old o))
 have hG := cellGuard
 have hfd := field_0
 generalize someOk vU 4 ⟨false, n, s⟩ = B at CP
 unfold Cl Ty
 go_enter Tryz.func74, Tryz.ntmps74
 go_wp2_with fail
 refine (CM.out _).mono ?_
 rintro e w1 ⟨rfl, o1⟩
 have y1 := fun (i : Nat) v (h : (w.alloc (.cells #[.int .i64 4, .bool nl] 54)).cell? ⟨w.heap.size, i, none⟩ = some v) => Old.cell o1 (Old.cell (Old.alloc (Old.refl _) _) h)
 have x0 := y1 0 _ (cell_of_heap (heap_alloc_new w _))
 have x1 := y1 1 _ (cell_of_heap (heap_alloc_new w _))
 clear y1
 have hsz : (w.alloc (.cells #[.int .i64 4, .bool nl] 54)).heap.size = w.heap.size + 1 := by simp
 have z1 : ∀ (i : Nat) v, (#[.bool false, .int .i64 n, .string s] : Array Value)[i]? = some v → w1.cell? ⟨w.heap.size + 1, i, none⟩ = some v := by
  intro i v h
  rw [← hsz]
  exact Old.cell o1 ((cell_of_heap (heap_alloc_new _ _)).trans h)
 have v0 := z1 0 _ rfl
 have v1 := z1 1 _ rfl
 have v2 := z1 2 _ rfl
 have O1 := hide (Old.trans (Old.alloc (Old.alloc (Old.refl w) _) _) o1)
 clear o1 z1 hsz
 have ho : Old w1 w1 := Old.refl _
 have g0 : ∀ w', Old w1 w' → w'.cell? ⟨w.heap.size, 0, none⟩ = some (.int .i64 4) := fun w' o => Old.cell o x0
 have g1 : ∀ w', Old w1 w' → w'.cell? ⟨w.heap.size, 1, none⟩ = some (.bool nl) := fun w' o => Old.cell o x1
 have u0 : ∀ w', Old w1 w' → w'.cell? ⟨w.heap.size + 1, 0, none⟩ = some (.bool false) := fun w' o => Old.cell o v0
 have u1 : ∀ w', Old w1 w' → w'.cell? ⟨w.heap.size + 1, 1, none⟩ = some (.int .i64 n) := fun w' o => Old.cell o v1
 have u2 : ∀ w', Old w1 w' → w'.cell? ⟨w.heap.size + 1, 2, none⟩ = some (.string s) := fun w' o => Old.cell o v2
 go_wp2_with fail
 go_region_held3 (fun w' => Old w1 w')
  (first | (exact Old.drew ho) | (exact Old.alloc (by assumption) _) | (exact Old.trans (by assumption) (by assumption)))
  (first
    | (go_at_call 107; (with_reducible refine (CO.out _).mono ?_); rintro e wa ⟨pp, q1, q2, q3, q4, rfl, hp, oa⟩)
    | (go_at_call 141; (with_reducible refine (CP.out _ _ (by assumption) (Old.trans O1.out (by assumption))).mono ?_); rintro e wb ⟨rfl, ob⟩)
    | (fail "none"))
 have O5 : Hid (Old w1 wb) := hide (by assumption)
 clear CO CP g0 g1 u0 u1 u2
 cases B
 · go_wp2_with fail
   go_ret
   exact ⟨rfl, Old.trans O1.out O5.out⟩
 · go_wp2_with fail
   go_ret
   exact ⟨rfl, Old.trans O1.out O5.out⟩
set_option maxRecDepth 100000 in
set_option maxHeartbeats 1000000 in
theorem check_5 (nl : Bool) (n : Int) (s : ByteArray) (w : World) (hT : Tabs w) : Calls Tryz.prog 74 #[Ty 5 nl, Cl ⟨false, n, s⟩] w (Ret (.int .i64 (if someOk vU 5 ⟨false, n, s⟩ then 0 else 90)) w) := by
 unfold Ret
 have HT := hide hT
 have CM := hide (fun w' => (show Calls Tryz.prog 43 #[Ty 5 nl] w' (Ret (.bool true) w') from may_run 5 nl w'))
 have CO := hide (fun w' => of_5 nl w')
 have CP := hide (fun w' => sz_5 ⟨false, n, s⟩ ▸ size_run ⟨false, n, s⟩ w')
 have hG := cellGuard
 have hfd := field_0
 generalize someOk vU 5 ⟨false, n, s⟩ = B at CP
 unfold Cl Ty
 go_enter Tryz.func74, Tryz.ntmps74
 go_wp2_with fail
 refine (CM.out _).mono ?_
 rintro e w1 ⟨rfl, o1⟩
 have y1 := fun (i : Nat) v (h : (w.alloc (.cells #[.int .i64 5, .bool nl] 54)).cell? ⟨w.heap.size, i, none⟩ = some v) => Old.cell o1 (Old.cell (Old.alloc (Old.refl _) _) h)
 have x0 := y1 0 _ (cell_of_heap (heap_alloc_new w _))
 have x1 := y1 1 _ (cell_of_heap (heap_alloc_new w _))
 clear y1
 have hsz : (w.alloc (.cells #[.int .i64 5, .bool nl] 54)).heap.size = w.heap.size + 1 := by simp
 have z1 : ∀ (i : Nat) v, (#[.bool false, .int .i64 n, .string s] : Array Value)[i]? = some v → w1.cell? ⟨w.heap.size + 1, i, none⟩ = some v := by
  intro i v h
  rw [← hsz]
  exact Old.cell o1 ((cell_of_heap (heap_alloc_new _ _)).trans h)
 have v0 := z1 0 _ rfl
 have v1 := z1 1 _ rfl
 have v2 := z1 2 _ rfl
 have O1 := hide (Old.trans (Old.alloc (Old.alloc (Old.refl w) _) _) o1)
 clear o1 z1 hsz
 have ho : Old w1 w1 := Old.refl _
 have g0 : ∀ w', Old w1 w' → w'.cell? ⟨w.heap.size, 0, none⟩ = some (.int .i64 5) := fun w' o => Old.cell o x0
 have g1 : ∀ w', Old w1 w' → w'.cell? ⟨w.heap.size, 1, none⟩ = some (.bool nl) := fun w' o => Old.cell o x1
 have u0 : ∀ w', Old w1 w' → w'.cell? ⟨w.heap.size + 1, 0, none⟩ = some (.bool false) := fun w' o => Old.cell o v0
 have u1 : ∀ w', Old w1 w' → w'.cell? ⟨w.heap.size + 1, 1, none⟩ = some (.int .i64 n) := fun w' o => Old.cell o v1
 have u2 : ∀ w', Old w1 w' → w'.cell? ⟨w.heap.size + 1, 2, none⟩ = some (.string s) := fun w' o => Old.cell o v2
 go_wp2_with fail
 go_region_held3 (fun w' => Old w1 w')
  (first | (exact Old.drew ho) | (exact Old.alloc (by assumption) _) | (exact Old.trans (by assumption) (by assumption)))
  (first
    | (go_at_call 107; (with_reducible refine (CO.out _).mono ?_); rintro e wa ⟨rfl, oa⟩)
    | (go_at_call 131; (with_reducible refine (CP.out _).mono ?_); rintro e wb ⟨rfl, ob⟩)
    | (fail "none"))
 have O5 : Hid (Old w1 wb) := hide (by assumption)
 clear CO CP g0 g1 u0 u1 u2
 cases B
 · go_wp2_with fail
   go_ret
   exact ⟨rfl, Old.trans O1.out O5.out⟩
 · go_wp2_with fail
   go_ret
   exact ⟨rfl, Old.trans O1.out O5.out⟩
end Go.Proofs.YthlfljmfggmfdaaGreatDoor

/-! ###  -/
namespace Go.Proofs.YthlfljmfggmfdaaGreatDoor
open Go.RowKit
theorem cellErr_may {k : Int} {nl : Bool} {c : Cell} (h : mayK k = false) : cellErr vU k nl c = 2 := by simp [cellErr, h]
theorem cellErr_some {k : Int} {nl : Bool} {n : Int} {s : ByteArray} (h : mayK k = true) : cellErr vU k nl ⟨false, n, s⟩ = if someOk vU k ⟨false, n, s⟩ then 0 else 90 := by simp [cellErr, h, cellOk]
theorem cellErr_no {k : Int} {n : Int} {s : ByteArray} (h : mayK k = true) : cellErr vU k false ⟨true, n, s⟩ = 90 := by simp [cellErr, h, cellOk]
theorem cellErr_null {k : Int} {n : Int} {s : ByteArray} (h : mayK k = true) : cellErr vU k true ⟨true, n, s⟩ = if neCell ⟨true, n, s⟩ ⟨true, 0, ⟨#[]⟩⟩ then 90 else 0 := by
 by_cases h1 : n = 0
 · by_cases h2 : s = ⟨#[]⟩
   · simp [cellErr, h, cellOk, neCell, h1, h2, none_]
   · simp [cellErr, h, cellOk, neCell, h1, h2, none_]
 · simp [cellErr, h, cellOk, neCell, h1]
set_option maxRecDepth 100000 in
set_option maxHeartbeats 1000000 in
theorem ccheck_run (k : Int) (nl : Bool) (c : Cell) (w : World) (hT : Tabs w) : Calls Tryz.prog 74 #[Ty k nl, Cl c] w (Ret (.int .i64 (cellErr vU k nl c)) w) := by
 obtain ⟨cn, n, s⟩ := c
 cases hk : mayK k
 · rw [cellErr_may hk]
   have CM := hide (fun w' => (show Calls Tryz.prog 43 #[Ty k nl] w' (Ret (.bool false) w') from hk ▸ may_run k nl w'))
   unfold Ret Cl Ty
   go_enter Tryz.func74, Tryz.ntmps74
   go_wp2_with fail
   refine (CM.out _).mono ?_
   rintro e w1 ⟨rfl, o1⟩
   have O1 := hide (Old.trans (Old.alloc (Old.alloc (Old.refl w) _) _) o1)
   clear o1
   go_wp2_with fail
   go_ret
   exact ⟨rfl, O1.out⟩
 · cases cn
   · rw [cellErr_some hk]
     have h5 : k = 1 ∨ k = 2 ∨ k = 3 ∨ k = 4 ∨ k = 5 := by simp [mayK] at hk; omega
     rcases h5 with rfl | rfl | rfl | rfl | rfl
     · exact check_1 nl n s w hT
     · exact check_2 nl n s w hT
     · exact check_3 nl n s w hT
     · exact check_4 nl n s w hT
     · exact check_5 nl n s w hT
   · have CM := hide (fun w' => (show Calls Tryz.prog 43 #[Ty k nl] w' (Ret (.bool true) w') from hk ▸ may_run k nl w'))
     cases nl
     · rw [cellErr_no hk]
       unfold Ret Cl Ty
       go_enter Tryz.func74, Tryz.ntmps74
       go_wp2_with fail
       refine (CM.out _).mono ?_
       rintro e w1 ⟨rfl, o1⟩
       have y1 := fun (i : Nat) v (h : (w.alloc (.cells #[.int .i64 k, .bool false] 54)).cell? ⟨w.heap.size, i, none⟩ = some v) => Old.cell o1 (Old.cell (Old.alloc (Old.refl _) _) h)
       have x0 := y1 0 _ (cell_of_heap (heap_alloc_new w _))
       have x1 := y1 1 _ (cell_of_heap (heap_alloc_new w _))
       clear y1
       have hsz : (w.alloc (.cells #[.int .i64 k, .bool false] 54)).heap.size = w.heap.size + 1 := by simp
       have z1 : ∀ (i : Nat) v, (#[.bool true, .int .i64 n, .string s] : Array Value)[i]? = some v → w1.cell? ⟨w.heap.size + 1, i, none⟩ = some v := by
        intro i v h
        rw [← hsz]
        exact Old.cell o1 ((cell_of_heap (heap_alloc_new _ _)).trans h)
       have v0 := z1 0 _ rfl
       have O1 := hide (Old.trans (Old.alloc (Old.alloc (Old.refl w) _) _) o1)
       clear o1 z1 hsz
       go_wp2_with fail
       go_ret
       exact ⟨rfl, O1.out⟩
     · rw [cellErr_null hk]
       have hG := cellGuard
       have HQ := fun w' => neq_cell ⟨true, n, s⟩ ⟨true, 0, ⟨#[]⟩⟩ w'
       simp only at HQ
       cases hne : neCell ⟨true, n, s⟩ ⟨true, 0, ⟨#[]⟩⟩
       all_goals
        rw [hne] at HQ
        unfold Ret Cl Ty
        go_enter Tryz.func74, Tryz.ntmps74
        go_wp2_with fail
        refine (CM.out _).mono ?_
        rintro e w1 ⟨rfl, o1⟩
        have y1 := fun (i : Nat) v (h : (w.alloc (.cells #[.int .i64 k, .bool true] 54)).cell? ⟨w.heap.size, i, none⟩ = some v) => Old.cell o1 (Old.cell (Old.alloc (Old.refl _) _) h)
        have x0 := y1 0 _ (cell_of_heap (heap_alloc_new w _))
        have x1 := y1 1 _ (cell_of_heap (heap_alloc_new w _))
        clear y1
        have hsz : (w.alloc (.cells #[.int .i64 k, .bool true] 54)).heap.size = w.heap.size + 1 := by simp
        have z1 : ∀ (i : Nat) v, (#[.bool true, .int .i64 n, .string s] : Array Value)[i]? = some v → w1.cell? ⟨w.heap.size + 1, i, none⟩ = some v := by
         intro i v h
         rw [← hsz]
         exact Old.cell o1 ((cell_of_heap (heap_alloc_new _ _)).trans h)
        have v0 := z1 0 _ rfl
        have v1 := z1 1 _ rfl
        have v2 := z1 2 _ rfl
        have O1 := hide (Old.trans (Old.alloc (Old.alloc (Old.refl w) _) _) o1)
        clear o1 z1 hsz
       · go_wp2_with fail
         go_region
         go_wp2_with fail
         go_ret
         exact ⟨rfl, Old.drew O1.out⟩
       · go_wp2_with fail
         go_ret
         exact ⟨rfl, O1.out⟩
def Col.vals (c : Col) : List Value := [.int .i64 c.id, .string c.name, .int .i64 c.kind, .bool c.null, .bool c.dflt.null, .int .i64 c.dflt.n, .string c.dflt.s]
abbrev Co (c : Col) : Value := .agg #[.int .i64 c.id, .string c.name, .int .i64 c.kind, .bool c.null, .bool c.dflt.null, .int .i64 c.dflt.n, .string c.dflt.s]
def colVals (l : List Col) : List Value := l.flatMap Col.vals
theorem colVals_length (l : List Col) : (colVals l).length = l.length * 7 := by
 induction l with
 | nil => rfl
 | cons c r ih => simp [colVals, Col.vals] at *; omega
theorem colVals_ne {l : List Col} (h : 0 < l.length) : colVals l ≠ [] := by
 intro e
 have := colVals_length l
 rw [e] at this
 simp at this
 omega
theorem colVals_get (l : List Col) (i k : Nat) (hk : k < 7) (hi : i < l.length) : (colVals l)[i * 7 + k]? = (l[i]).vals[k]? := by
 induction l generalizing i with
 | nil => simp at hi
 | cons c r ih =>
   have hc : (Col.vals c).length = 7 := rfl
   cases i with
   | zero => simp [colVals, List.flatMap_cons, List.getElem?_append_left, hc, hk]
   | succ i =>
     have h := ih i (by simpa using hi)
     simp only [colVals, List.flatMap_cons] at *
     rw [List.getElem?_append_right (by omega)]
     simp only [List.getElem_cons_succ]
     rw [← h]
     congr 1
     omega
theorem colVals_append (a b : List Col) : colVals (a ++ b) = colVals a ++ colVals b := by simp [colVals]
theorem colVals_cell (l : List Col) : ∀ u ∈ colVals l, u.oneCell' = true := by
 intro u hu
 simp only [colVals, List.mem_flatMap, Col.vals, List.mem_cons, List.not_mem_nil, or_false] at hu
 obtain ⟨c, _, rfl | rfl | rfl | rfl | rfl | rfl | rfl⟩ := hu <;> rfl
abbrev ColsIs (w : World) (v : Value) (l : List Col) : Prop := Sl w v l.length (colVals l)
def ColAt (w : World) (b o : Nat) (c : Col) : Prop := w.cell? ⟨b, o, none⟩ = some (.int .i64 c.id) ∧ w.cell? ⟨b, o + 1, none⟩ = some (.string c.name) ∧ w.cell? ⟨b, o + 2, none⟩ = some (.int .i64 c.kind) ∧ w.cell? ⟨b, o + 3, none⟩ = some (.bool c.null) ∧ w.cell? ⟨b, o + 4, none⟩ = some (.bool c.dflt.null) ∧ w.cell? ⟨b, o + 5, none⟩ = some (.int .i64 c.dflt.n) ∧ w.cell? ⟨b, o + 6, none⟩ = some (.string c.dflt.s)
theorem ColAt.old {w w' : World} {b o : Nat} {c : Col} (h : ColAt w b o c) (q : Old w w') : ColAt w' b o c := ⟨q.cell h.1, q.cell h.2.1, q.cell h.2.2.1, q.cell h.2.2.2.1, q.cell h.2.2.2.2.1, q.cell h.2.2.2.2.2.1, q.cell h.2.2.2.2.2.2⟩
theorem cols_form {w : World} {v : Value} {l : List Col} (h : ColsIs w v l) : ∃ A cap, v = .slice A l.length cap ∧ l.length ≤ cap ∧ cap ≤ maxLen ∧
 (l.length = 0 ∨ ∃ b off, A = some ⟨b, off, none⟩ ∧ ∀ i, (hi : i < l.length) → ColAt w b (off + i * 7) l[i]) := by
 obtain ⟨A, cap, rfl, h1, h2, h3⟩ := h
 refine ⟨A, cap, rfl, h1, h2, ?_⟩
 rcases Nat.eq_zero_or_pos l.length with h0 | h0
 · exact .inl h0
 · obtain ⟨b, off, rfl, hc⟩ := h3 (colVals_ne h0)
   refine .inr ⟨b, off, rfl, fun i hi => ?_⟩
   have g : ∀ k v, k < 7 → (l[i]).vals[k]? = some v → w.cell? ⟨b, off + i * 7 + k, none⟩ = some v := fun k v hk hv => by
    have := hc (i * 7 + k) v ((colVals_get l i k hk hi).trans hv)
    rwa [← Nat.add_assoc] at this
   exact ⟨g 0 _ (by omega) rfl, g 1 _ (by omega) rfl, g 2 _ (by omega) rfl, g 3 _ (by omega) rfl, g 4 _ (by omega) rfl, g 5 _ (by omega) rfl, g 6 _ (by omega) rfl⟩
end Go.Proofs.YthlfljmfggmfdaaGreatDoor

/-! ###  -/
namespace Go.Proofs.YthlfljmfggmfdaaGreatDoor
open Go.RowKit
def xhex (s : ByteArray) : ByteArray := ⟨(120 :: hexL s.data.toList).toArray⟩
set_option maxRecDepth 100000 in
set_option maxHeartbeats 1000000 in
theorem text5_run (nl : Bool) (n : Int) (s : ByteArray) (w : World) (hT : Tabs w) : Calls Tryz.prog 115 #[Ty 5 nl, Cl ⟨false, n, s⟩] w
 (Ret (.tuple #[.string (if szB ⟨false, n, s⟩ then xhex s else ⟨#[]⟩), .int .i64 (if szB ⟨false, n, s⟩ then 0 else 90)]) w) := by
 have CK := hide (fun (w' : World) (o : Old w w') => ccheck_run 5 nl ⟨false, n, s⟩ w' (hT.old o))
 rw [cellErr_some (by decide), ← sz_5] at CK
 have HZ := hide (fun (h : szB ⟨false, n, s⟩ = true) => szB_le h)
 have HZ2 := hide (show szB ⟨false, n, s⟩ = true → s.size ≤ 1073741824 by
  intro h
  simp [szB] at h
  omega)
 clear HZ hT
 unfold Ret at *
 cases hz : szB ⟨false, n, s⟩
 · rw [hz] at CK
   unfold Cl Ty
   go_enter Tryz.func115, Tryz.ntmps115
   go_wp2_with fail
   refine (CK.out _ (Old.alloc (Old.alloc (Old.refl _) _) _)).mono ?_
   rintro e w1 ⟨rfl, o1⟩
   have O1 := hide (Old.trans (Old.alloc (Old.alloc (Old.refl w) _) _) o1)
   clear o1
   go_wp2_with fail
   go_ret2
   exact ⟨rfl, O1.out⟩
 · rw [hz] at CK
   have CO := hide (fun w' => of_5 nl w')
   have CH := hide (fun w' => hex_run ⟨false, n, s⟩ (HZ2.out hz) w')
   have hfd := field_1
   unfold Ret Cl Ty at *
   simp only at CH
   go_enter Tryz.func115, Tryz.ntmps115
   go_wp2_with fail
   refine (CK.out _ (Old.alloc (Old.alloc (Old.refl _) _) _)).mono ?_
   rintro e w1 ⟨rfl, o1⟩
   have y1 := fun (i : Nat) v (h : (w.alloc (.cells #[.int .i64 5, .bool nl] 54)).cell? ⟨w.heap.size, i, none⟩ = some v) => Old.cell o1 (Old.cell (Old.alloc (Old.refl _) _) h)
   have x0 := y1 0 _ (cell_of_heap (heap_alloc_new w _))
   have x1 := y1 1 _ (cell_of_heap (heap_alloc_new w _))
   clear y1
   have hsz : (w.alloc (.cells #[.int .i64 5, .bool nl] 54)).heap.size = w.heap.size + 1 := by simp
   have z1 : ∀ (i : Nat) v, (#[.bool false, .int .i64 n, .string s] : Array Value)[i]? = some v → w1.cell? ⟨w.heap.size + 1, i, none⟩ = some v := by
    intro i v h
    rw [← hsz]
    exact Old.cell o1 ((cell_of_heap (heap_alloc_new _ _)).trans h)
   have v0 := z1 0 _ rfl
   have v1 := z1 1 _ rfl
   have v2 := z1 2 _ rfl
   have O1 := hide (Old.trans (Old.alloc (Old.alloc (Old.refl w) _) _) o1)
   clear o1 z1 hsz
   have g0 : ∀ q : Later w1, q.world.cell? ⟨w.heap.size, 0, none⟩ = some (.int .i64 5) := fun q => q.old.cell x0
   have g1 : ∀ q : Later w1, q.world.cell? ⟨w.heap.size, 1, none⟩ = some (.bool nl) := fun q => q.old.cell x1
   have u0 : ∀ q : Later w1, q.world.cell? ⟨w.heap.size + 1, 0, none⟩ = some (.bool false) := fun q => q.old.cell v0
   have u1 : ∀ q : Later w1, q.world.cell? ⟨w.heap.size + 1, 1, none⟩ = some (.int .i64 n) := fun q => q.old.cell v1
   have u2 : ∀ q : Later w1, q.world.cell? ⟨w.heap.size + 1, 2, none⟩ = some (.string s) := fun q => q.old.cell v2
   go_wp2_with fail
   refine region_later (by kernel_rfl) (by kernel_rfl) ?_
   repeat (go_big_quiet_step (first | exact Later.call (CO.out _) | exact Later.call (CH.out _)))
   refine wpQuiet_nil ?_
   rintro wq ⟨⟨_, hwq⟩, rfl⟩
   go_wp2_with fail
   go_ret2
   exact ⟨rfl, Old.trans O1.out hwq⟩
end Go.Proofs.YthlfljmfggmfdaaGreatDoor
