/-  -/
import Derived.Test.YthlfljmfggmfdaaGreatDoorQk20
import Derived.Deep.RegionHeld3
import Derived.Test.YthlfljmfggmfdaaGreatDoorQk25
import Derived.Test.YthlfljmfggmfdaaGreatDoorQk27
import Derived.Test.YthlfljmfggmfdaaGreatDoorQk26
import Derived.Test.YthlfljmfggmfdaaGreatDoorQk23
import Derived.Maps.OwnSet
/-! ###  -/
namespace Go.Proofs.YthlfljmfggmfdaaGreatDoor
open Go.RowKit
set_option maxRecDepth 100000 in
set_option maxHeartbeats 1000000 in
theorem pvalue_1 (nl : Bool) (n : Int) (s : ByteArray) (w : World) (hT : Tabs w) : Calls Tryz.prog 38 #[Pa 1 nl ⟨false, n, s⟩] w (NewNodes w (leafT (if n = 1 then 3 else 2) 0 none_)) := by
 have HT := hide hT
 have CP := hide (fun (w' : World) (o : Old w w') => (pbool_run 1 nl false n s w' : Calls _ _ _ _ (NewNodes w' (leafT (if n = 1 then 3 else 2) 0 none_))))
 clear hT
 obtain ⟨l, hl⟩ : ∃ l, leafT (if n = 1 then 3 else 2) 0 none_ = l := ⟨_, rfl⟩
 rw [hl] at CP ⊢
 clear hl
 unfold Pa at *
 go_enter Tryz.func38, Tryz.ntmps38
 go_wp2_with fail
 obtain ⟨w1, hw1⟩ : ∃ w1, w1 = (w.alloc (.cells #[.int .i64 1, .bool nl, .bool false, .int .i64 n, .string s] 75)).alloc (.cells #[.nilFunc, .func (.func 80) #[] #[], .func (.func 81) #[] #[], .func (.func 81) #[] #[], .func (.func 82) #[] #[], .func (.func 83) #[] #[]] 117) := ⟨_, rfl⟩
 have O1 : Hid (Old w w1) := hide (by rw [hw1]; exact Old.alloc (Old.alloc (Old.refl _) _) _)
 have x : ∀ i v, (#[.int .i64 1, .bool nl, .bool false, .int .i64 n, .string s] : Array Value)[i]? = some v → ∀ w', Old w1 w' → w'.cell? ⟨w.heap.size, i, none⟩ = some v := by
  intro i v h w' o
  refine Old.cell o ?_
  rw [hw1]
  exact Old.cell (Old.alloc (Old.refl _) _) ((cell_of_heap (heap_alloc_new _ _)).trans h)
 have x0 := x 0 _ rfl
 have x1 := x 1 _ rfl
 have x2 := x 2 _ rfl
 have x3 := x 3 _ rfl
 have x4 := x 4 _ rfl
 have hsz : (w.alloc (.cells #[.int .i64 1, .bool nl, .bool false, .int .i64 n, .string s] 75)).heap.size = w.heap.size + 1 := by simp
 have t : ∀ w', Old w1 w' → w'.cell? ⟨w.heap.size + 1, 1, none⟩ = some (.func (.func 80) #[] #[]) := by
  intro w' o
  refine Old.cell o ?_
  rw [hw1, ← hsz]
  exact (cell_of_heap (heap_alloc_new _ _)).trans rfl
 rw [← hw1]
 clear x hsz hw1
 have ho : Old w1 w1 := Old.refl _
 go_region_held3 (fun w' => Old w1 w')
  (first | (exact Old.drew ho) | (exact Old.alloc (by assumption) _) | (exact Old.trans (by assumption) (by assumption)))
  (first
    | (go_at_call 80; (with_reducible refine (CP.out _ (Old.trans O1.out (by assumption))).mono ?_); rintro e wb ⟨v, rfl, h1, h2⟩)
    | (fail "none"))
 all_goals
  have O5 : Hid (Old w1 wb) := hide (by assumption)
  have H1 := hide (h1.mono (show w.heap.size ≤ w1.heap.size from O1.out.size))
  clear h1 x0 x1 x2 x3 x4 t
  go_wp2_with fail
  go_ret
  exact ⟨_, rfl, H1.out, Old.trans O1.out O5.out⟩
set_option maxRecDepth 100000 in
set_option maxHeartbeats 1000000 in
theorem pvalue_2 (nl : Bool) (n : Int) (s : ByteArray) (w : World) (hT : Tabs w) : Calls Tryz.prog 38 #[Pa 2 nl ⟨false, n, s⟩] w (NewNodes w (leafT 4 n none_)) := by
 have HT := hide hT
 have CP := hide (fun (w' : World) (o : Old w w') => (pwhole_run 2 nl false n s w' : Calls _ _ _ _ (NewNodes w' (leafT 4 n none_))))
 clear hT
 obtain ⟨l, hl⟩ : ∃ l, leafT 4 n none_ = l := ⟨_, rfl⟩
 rw [hl] at CP ⊢
 clear hl
 unfold Pa at *
 go_enter Tryz.func38, Tryz.ntmps38
 go_wp2_with fail
 obtain ⟨w1, hw1⟩ : ∃ w1, w1 = (w.alloc (.cells #[.int .i64 2, .bool nl, .bool false, .int .i64 n, .string s] 75)).alloc (.cells #[.nilFunc, .func (.func 80) #[] #[], .func (.func 81) #[] #[], .func (.func 81) #[] #[], .func (.func 82) #[] #[], .func (.func 83) #[] #[]] 117) := ⟨_, rfl⟩
 have O1 : Hid (Old w w1) := hide (by rw [hw1]; exact Old.alloc (Old.alloc (Old.refl _) _) _)
 have x : ∀ i v, (#[.int .i64 2, .bool nl, .bool false, .int .i64 n, .string s] : Array Value)[i]? = some v → ∀ w', Old w1 w' → w'.cell? ⟨w.heap.size, i, none⟩ = some v := by
  intro i v h w' o
  refine Old.cell o ?_
  rw [hw1]
  exact Old.cell (Old.alloc (Old.refl _) _) ((cell_of_heap (heap_alloc_new _ _)).trans h)
 have x0 := x 0 _ rfl
 have x1 := x 1 _ rfl
 have x2 := x 2 _ rfl
 have x3 := x 3 _ rfl
 have x4 := x 4 _ rfl
 have hsz : (w.alloc (.cells #[.int .i64 2, .bool nl, .bool false, .int .i64 n, .string s] 75)).heap.size = w.heap.size + 1 := by simp
 have t : ∀ w', Old w1 w' → w'.cell? ⟨w.heap.size + 1, 2, none⟩ = some (.func (.func 81) #[] #[]) := by
  intro w' o
  refine Old.cell o ?_
  rw [hw1, ← hsz]
  exact (cell_of_heap (heap_alloc_new _ _)).trans rfl
 rw [← hw1]
 clear x hsz hw1
 have ho : Old w1 w1 := Old.refl _
 go_region_held3 (fun w' => Old w1 w')
  (first | (exact Old.drew ho) | (exact Old.alloc (by assumption) _) | (exact Old.trans (by assumption) (by assumption)))
  (first
    | (go_at_call 81; (with_reducible refine (CP.out _ (Old.trans O1.out (by assumption))).mono ?_); rintro e wb ⟨v, rfl, h1, h2⟩)
    | (fail "none"))
 all_goals
  have O5 : Hid (Old w1 wb) := hide (by assumption)
  have H1 := hide (h1.mono (show w.heap.size ≤ w1.heap.size from O1.out.size))
  clear h1 x0 x1 x2 x3 x4 t
  go_wp2_with fail
  go_ret
  exact ⟨_, rfl, H1.out, Old.trans O1.out O5.out⟩
set_option maxRecDepth 100000 in
set_option maxHeartbeats 1000000 in
theorem pvalue_3 (nl : Bool) (n : Int) (s : ByteArray) (w : World) (hT : Tabs w) : Calls Tryz.prog 38 #[Pa 3 nl ⟨false, n, s⟩] w (NewNodes w (leafT 4 n none_)) := by
 have HT := hide hT
 have CP := hide (fun (w' : World) (o : Old w w') => (pwhole_run 3 nl false n s w' : Calls _ _ _ _ (NewNodes w' (leafT 4 n none_))))
 clear hT
 obtain ⟨l, hl⟩ : ∃ l, leafT 4 n none_ = l := ⟨_, rfl⟩
 rw [hl] at CP ⊢
 clear hl
 unfold Pa at *
 go_enter Tryz.func38, Tryz.ntmps38
 go_wp2_with fail
 obtain ⟨w1, hw1⟩ : ∃ w1, w1 = (w.alloc (.cells #[.int .i64 3, .bool nl, .bool false, .int .i64 n, .string s] 75)).alloc (.cells #[.nilFunc, .func (.func 80) #[] #[], .func (.func 81) #[] #[], .func (.func 81) #[] #[], .func (.func 82) #[] #[], .func (.func 83) #[] #[]] 117) := ⟨_, rfl⟩
 have O1 : Hid (Old w w1) := hide (by rw [hw1]; exact Old.alloc (Old.alloc (Old.refl _) _) _)
 have x : ∀ i v, (#[.int .i64 3, .bool nl, .bool false, .int .i64 n, .string s] : Array Value)[i]? = some v → ∀ w', Old w1 w' → w'.cell? ⟨w.heap.size, i, none⟩ = some v := by
  intro i v h w' o
  refine Old.cell o ?_
  rw [hw1]
  exact Old.cell (Old.alloc (Old.refl _) _) ((cell_of_heap (heap_alloc_new _ _)).trans h)
 have x0 := x 0 _ rfl
 have x1 := x 1 _ rfl
 have x2 := x 2 _ rfl
 have x3 := x 3 _ rfl
 have x4 := x 4 _ rfl
 have hsz : (w.alloc (.cells #[.int .i64 3, .bool nl, .bool false, .int .i64 n, .string s] 75)).heap.size = w.heap.size + 1 := by simp
 have t : ∀ w', Old w1 w' → w'.cell? ⟨w.heap.size + 1, 3, none⟩ = some (.func (.func 81) #[] #[]) := by
  intro w' o
  refine Old.cell o ?_
  rw [hw1, ← hsz]
  exact (cell_of_heap (heap_alloc_new _ _)).trans rfl
 rw [← hw1]
 clear x hsz hw1
 have ho : Old w1 w1 := Old.refl _
 go_region_held3 (fun w' => Old w1 w')
  (first | (exact Old.drew ho) | (exact Old.alloc (by assumption) _) | (exact Old.trans (by assumption) (by assumption)))
  (first
    | (go_at_call 81; (with_reducible refine (CP.out _ (Old.trans O1.out (by assumption))).mono ?_); rintro e wb ⟨v, rfl, h1, h2⟩)
    | (fail "none"))
 all_goals
  have O5 : Hid (Old w1 wb) := hide (by assumption)
  have H1 := hide (h1.mono (show w.heap.size ≤ w1.heap.size from O1.out.size))
  clear h1 x0 x1 x2 x3 x4 t
  go_wp2_with fail
  go_ret
  exact ⟨_, rfl, H1.out, Old.trans O1.out O5.out⟩
set_option maxRecDepth 100000 in
set_option maxHeartbeats 1000000 in
theorem pvalue_4 (nl : Bool) (n : Int) (s : ByteArray) (hv : vU s = true) (hs : s.size ≤ 9223372036854775807) (w : World) (hT : Tabs w) : Calls Tryz.prog 38 #[Pa 4 nl ⟨false, n, s⟩] w (NewNodes w (leafT 5 0 s)) := by
 have HT := hide hT
 have CP := hide (fun (w' : World) (o : Old w w') => (ptext_run 4 nl false n s w' hv hs (HT.out.old o) : Calls _ _ _ _ (NewNodes w' (leafT 5 0 s))))
 clear hT
 obtain ⟨l, hl⟩ : ∃ l, leafT 5 0 s = l := ⟨_, rfl⟩
 rw [hl] at CP ⊢
 clear hl
 unfold Pa at *
 go_enter Tryz.func38, Tryz.ntmps38
 go_wp2_with fail
 obtain ⟨w1, hw1⟩ : ∃ w1, w1 = (w.alloc (.cells #[.int .i64 4, .bool nl, .bool false, .int .i64 n, .string s] 75)).alloc (.cells #[.nilFunc, .func (.func 80) #[] #[], .func (.func 81) #[] #[], .func (.func 81) #[] #[], .func (.func 82) #[] #[], .func (.func 83) #[] #[]] 117) := ⟨_, rfl⟩
 have O1 : Hid (Old w w1) := hide (by rw [hw1]; exact Old.alloc (Old.alloc (Old.refl _) _) _)
 have x : ∀ i v, (#[.int .i64 4, .bool nl, .bool false, .int .i64 n, .string s] : Array Value)[i]? = some v → ∀ w', Old w1 w' → w'.cell? ⟨w.heap.size, i, none⟩ = some v := by
  intro i v h w' o
  refine Old.cell o ?_
  rw [hw1]
  exact Old.cell (Old.alloc (Old.refl _) _) ((cell_of_heap (heap_alloc_new _ _)).trans h)
 have x0 := x 0 _ rfl
 have x1 := x 1 _ rfl
 have x2 := x 2 _ rfl
 have x3 := x 3 _ rfl
 have x4 := x 4 _ rfl
 have hsz : (w.alloc (.cells #[.int .i64 4, .bool nl, .bool false, .int .i64 n, .string s] 75)).heap.size = w.heap.size + 1 := by simp
 have t : ∀ w', Old w1 w' → w'.cell? ⟨w.heap.size + 1, 4, none⟩ = some (.func (.func 82) #[] #[]) := by
  intro w' o
  refine Old.cell o ?_
  rw [hw1, ← hsz]
  exact (cell_of_heap (heap_alloc_new _ _)).trans rfl
 rw [← hw1]
 clear x hsz hw1
 have ho : Old w1 w1 := Old.refl _
 go_region_held3 (fun w' => Old w1 w')
  (first | (exact Old.drew ho) | (exact Old.alloc (by assumption) _) | (exact Old.trans (by assumption) (by assumption)))
  (first
    | (go_at_call 82; (with_reducible refine (CP.out _ (Old.trans O1.out (by assumption))).mono ?_); rintro e wb ⟨v, rfl, h1, h2⟩)
    | (fail "none"))
 all_goals
  have O5 : Hid (Old w1 wb) := hide (by assumption)
  have H1 := hide (h1.mono (show w.heap.size ≤ w1.heap.size from O1.out.size))
  clear h1 x0 x1 x2 x3 x4 t
  go_wp2_with fail
  go_ret
  exact ⟨_, rfl, H1.out, Old.trans O1.out O5.out⟩
set_option maxRecDepth 100000 in
set_option maxHeartbeats 1000000 in
theorem pvalue_5 (nl : Bool) (n : Int) (s : ByteArray) (hz : szB ⟨false, n, s⟩ = true) (w : World) (hT : Tabs w) : Calls Tryz.prog 38 #[Pa 5 nl ⟨false, n, s⟩] w (NewNodes w (leafT 5 0 (hexOf s))) := by
 have HT := hide hT
 have CP := hide (fun (w' : World) (o : Old w w') => (pbytes_run nl n s w' hz (HT.out.old o) : Calls _ _ _ _ (NewNodes w' (leafT 5 0 (hexOf s)))))
 clear hT
 obtain ⟨l, hl⟩ : ∃ l, leafT 5 0 (hexOf s) = l := ⟨_, rfl⟩
 rw [hl] at CP ⊢
 clear hl
 unfold Pa at *
 go_enter Tryz.func38, Tryz.ntmps38
 go_wp2_with fail
 obtain ⟨w1, hw1⟩ : ∃ w1, w1 = (w.alloc (.cells #[.int .i64 5, .bool nl, .bool false, .int .i64 n, .string s] 75)).alloc (.cells #[.nilFunc, .func (.func 80) #[] #[], .func (.func 81) #[] #[], .func (.func 81) #[] #[], .func (.func 82) #[] #[], .func (.func 83) #[] #[]] 117) := ⟨_, rfl⟩
 have O1 : Hid (Old w w1) := hide (by rw [hw1]; exact Old.alloc (Old.alloc (Old.refl _) _) _)
 have x : ∀ i v, (#[.int .i64 5, .bool nl, .bool false, .int .i64 n, .string s] : Array Value)[i]? = some v → ∀ w', Old w1 w' → w'.cell? ⟨w.heap.size, i, none⟩ = some v := by
  intro i v h w' o
  refine Old.cell o ?_
  rw [hw1]
  exact Old.cell (Old.alloc (Old.refl _) _) ((cell_of_heap (heap_alloc_new _ _)).trans h)
 have x0 := x 0 _ rfl
 have x1 := x 1 _ rfl
 have x2 := x 2 _ rfl
 have x3 := x 3 _ rfl
 have x4 := x 4 _ rfl
 have hsz : (w.alloc (.cells #[.int .i64 5, .bool nl, .bool false, .int .i64 n, .string s] 75)).heap.size = w.heap.size + 1 := by simp
 have t : ∀ w', Old w1 w' → w'.cell? ⟨w.heap.size + 1, 5, none⟩ = some (.func (.func 83) #[] #[]) := by
  intro w' o
  refine Old.cell o ?_
  rw [hw1, ← hsz]
  exact (cell_of_heap (heap_alloc_new _ _)).trans rfl
 rw [← hw1]
 clear x hsz hw1
 have ho : Old w1 w1 := Old.refl _
 go_region_held3 (fun w' => Old w1 w')
  (first | (exact Old.drew ho) | (exact Old.alloc (by assumption) _) | (exact Old.trans (by assumption) (by assumption)))
  (first
    | (go_at_call 83; (with_reducible refine (CP.out _ (Old.trans O1.out (by assumption))).mono ?_); rintro e wb ⟨v, rfl, h1, h2⟩)
    | (fail "none"))
 all_goals
  have O5 : Hid (Old w1 wb) := hide (by assumption)
  have H1 := hide (h1.mono (show w.heap.size ≤ w1.heap.size from O1.out.size))
  clear h1 x0 x1 x2 x3 x4 t
  go_wp2_with fail
  go_ret
  exact ⟨_, rfl, H1.out, Old.trans O1.out O5.out⟩
end Go.Proofs.YthlfljmfggmfdaaGreatDoor

/-! ###  -/
namespace Go.Proofs.YthlfljmfggmfdaaGreatDoor
open Go.RowKit
theorem pvalue_null (k : Int) (nl : Bool) (n : Int) (s : ByteArray) (w : World) : Calls Tryz.prog 38 #[Pa k nl ⟨true, n, s⟩] w (NewNodes w (leafT 1 0 none_)) := by
 have CL := hide (fun w' => null_run w')
 unfold Pa
 go_enter Tryz.func38, Tryz.ntmps38
 go_wp2_with fail
 refine (CL.out _).mono ?_
 rintro e w2 ⟨v, rfl, h1, h2⟩
 have O2 := hide (Old.trans (Old.alloc (Old.refl w) _) h2)
 have H1 := hide (h1.mono (Old.alloc (Old.refl w) _).size)
 clear h1 h2
 go_wp2_with fail
 go_ret
 exact ⟨_, rfl, H1.out, O2.out⟩
theorem pvalue_run (k : Int) (nl : Bool) (c : Cell) (hk : mayK k = true) (hc : cellOk vU k nl c = true) (w : World) (hT : Tabs w) : Calls Tryz.prog 38 #[Pa k nl c] w (NewNodes w (leafC k c)) := by
 obtain ⟨cn, n, s⟩ := c
 cases cn
 · have h5 : k = 1 ∨ k = 2 ∨ k = 3 ∨ k = 4 ∨ k = 5 := by simp [mayK] at hk; omega
   rcases h5 with rfl | rfl | rfl | rfl | rfl
   · have hm : leafC 1 ⟨false, n, s⟩ = leafT (if n = 1 then 3 else 2) 0 none_ := rfl
     rw [hm]
     exact pvalue_1 nl n s w hT
   · exact pvalue_2 nl n s w hT
   · exact pvalue_3 nl n s w hT
   · have h4 : someOk vU 4 ⟨false, n, s⟩ = true := by simpa [cellOk] using hc
     rw [← tx_4] at h4
     simp only [Bool.and_eq_true] at h4
     exact pvalue_4 nl n s h4.2 (szB_le h4.1) w hT
   · have h4 : someOk vU 5 ⟨false, n, s⟩ = true := by simpa [cellOk] using hc
     rw [← sz_5] at h4
     exact pvalue_5 nl n s h4 w hT
 · exact pvalue_null k nl n s w
end Go.Proofs.YthlfljmfggmfdaaGreatDoor

/-! ###  -/
namespace Go.Proofs.YthlfljmfggmfdaaGreatDoor
open Go.RowKit
def ColS (w : World) (cb : Nat) (x : Col) (w' : World) : Prop := Old w w' ∧ ∃ f, w'.heap[cb]? = some (.cells x.vals.toArray 56 f)
section
variable {w a b : World} {cb : Nat} {x : Col}
theorem ColS.drew (h : ColS w cb x a) : ColS w cb x a.drew := ⟨Old.drew h.1, h.2⟩
theorem ColS.lt (h : ColS w cb x a) : cb < a.heap.size := by obtain ⟨f, hf⟩ := h.2; exact block_lt hf
theorem ColS.step (h : ColS w cb x a) (o : Old a b) : ColS w cb x b := ⟨Old.trans h.1 o, by obtain ⟨f, hf⟩ := h.2; exact ⟨f, (o.block _ (block_lt hf)).trans hf⟩⟩
theorem ColS.alloc (h : ColS w cb x a) (o : Obj) : ColS w cb x (a.alloc o) := h.step (Old.alloc (Old.refl _) o)
theorem ColS.kept {T base : Nat} (h : ColS w cb x a) (k : Kept T base a b) (hb : w.heap.size ≤ base) (hne : 56 ≠ T) : ColS w cb x b := ⟨k.old h.1 hb, by obtain ⟨f, hf⟩ := h.2; exact ⟨f, k.other _ _ _ _ hf hne⟩⟩
theorem ColS.cell (h : ColS w cb x a) {i : Nat} {v : Value} (hv : x.vals[i]? = some v) : a.cell? ⟨cb, i, none⟩ = some v := by
 obtain ⟨f, hf⟩ := h.2
 rw [cell_of_heap hf]
 simpa using hv
end
set_option maxRecDepth 100000 in
set_option maxHeartbeats 4000000 in
theorem tapeR_run (cv v : Value) (cols : List Col) (r : List Cell) (out : List Nd) (er : Int) (w : World) (hc : ColsIs w cv cols) (hr : RowIs w v r) (hnm : ∀ c ∈ cols, c.name.size ≤ maxLen) (hl : cols.length ≤ 4000) (hT : Tabs w) (ht : RowT cols r out er) :
 Calls Tryz.prog 16 #[cv, v] w (NewNodesE w out er) := by
 have CN := hide (fun w' (o : Old w w') => named_run cv cols w' (hc.old o) hnm)
 have CR := hide (fun w' (o : Old w w') => rowCheck_run cv v cols r w' (hc.old o) (hr.old o) (hT.old o))
 have HT := hide hT
 unfold Ret at CN CR
 obtain ⟨A, ca, rfl, hla, hma, hr'⟩ := hr.row
 obtain ⟨B, cb, rfl, hlb, hmb, hc'⟩ := cols_form hc
 unfold maxLen at hma hmb
 have HR := hide hr'
 have HC := hide hc'
 clear hr hc hr' hc' hnm hT
 rcases ht with ⟨hn, rfl, rfl⟩ | ⟨hn, h0, rfl, rfl⟩ | ⟨hn, h0, hobj⟩
 · rw [hn] at CN
   clear hn CR
   go_enter Tryz.func16, Tryz.ntmps16
   go_wp2_with fail
   refine (CN.out _ (Old.refl _)).mono ?_
   rintro e w1 ⟨rfl, o1⟩
   go_wp2_with fail
   go_ret2
   exact ⟨_, rfl, SlT.nil_ _, o1⟩
 · rw [hn] at CN
   obtain ⟨E, hE⟩ : ∃ E, rowErr vU cols r = E := ⟨_, rfl⟩
   rw [hE] at CR h0 ⊢
   have h1 : (E != 0) = true := by simp [h0]
   clear hn hE h0
   go_enter Tryz.func16, Tryz.ntmps16
   go_wp2_with fail
   refine (CN.out _ (Old.refl _)).mono ?_
   rintro e w1 ⟨rfl, o1⟩
   go_wp2_with fail
   refine (CR.out _ o1).mono ?_
   rintro e w2 ⟨rfl, o2⟩
   have O2 := hide (Old.trans o1 o2)
   clear o1 o2
   go_wp2_with fail
   go_ret2
   exact ⟨_, rfl, SlT.nil_ _, O2.out⟩
 · have HN := hide hn
   have H0 := hide h0
   have HOB := hide hobj
   rw [hn] at CN
   rw [h0] at CR
   have HLEN := hide (rowErr_zero.1 h0).1
   clear hn h0 hobj
   go_enter Tryz.func16, Tryz.ntmps16
   go_wp2_with fail
   refine (CN.out _ (Old.refl _)).mono ?_
   rintro e w1 ⟨rfl, o1⟩
   go_wp2_with fail
   refine (CR.out _ o1).mono ?_
   rintro e w2 ⟨rfl, o2⟩
   have O2 := hide (Old.trans o1 o2)
   clear o1 o2 CN CR
   go_wp2_with fail
   go_loopw [7, 8, 22] (fun kv pv iv wr => ∃ k : Nat, iv = .int .i64 k ∧ k ≤ cols.length ∧ Hid (TextsOwn w.heap.size wr kv ((cols.map Col.name).take k)) ∧ Hid (PartsOwn w.heap.size wr pv ((partsC cols r).take k)) ∧ Hid (Old w wr)) (fun _ _ iv _ => cols.length - (intOf iv).toNat)
   case atStart => exact ⟨0, rfl, by omega, hide (own_nil _ _ _ _), hide (PartsOwn.nil_ _ _), O2⟩
   case round =>
    obtain ⟨k, rfl, hk, HTO, HPO, HO⟩ := hrel
    by_cases hlt : k < cols.length
    · have hli : (k : Int) < (cols.length : Int) := by omega
      have hkr : k < r.length := by have := HLEN.out; omega
      have hri : (k : Int) < (r.length : Int) := by omega
      obtain ⟨b1, o1, rfl, hc1⟩ := HC.out.resolve_left (by omega)
      obtain ⟨b2, o2, rfl, hc2⟩ := HR.out.resolve_left (by omega)
      obtain ⟨e0, e1, e2, e3, e4, e5, e6⟩ := (hc1 k hlt).old HO.out
      obtain ⟨z0, z1, z2⟩ := hc2 k hkr
      obtain ⟨y1, y2⟩ := cells_ok H0.out hlt hkr
      have HPN := hide (part_next hlt hkr)
      have HTN := hide (name_next hlt)
      have CV := hide (fun w' (o : Old w w') => pvalue_run cols[k].kind cols[k].null r[k] y1 y2 w' (HT.out.old o))
      unfold Pa at CV
      generalize cols[k] = x at *
      generalize r[k] = c at *
      have hl1 : ((partsC cols r).take k).length + 1 ≤ 4194304 := by simp [partsC]; omega
      have hl2 : ((cols.map Col.name).take k).length + 1 ≤ 4194304 := by simp; omega
      have Z0 := hide z0
      have Z1 := hide z1
      have Z2 := hide z2
      clear hc1 hc2 z0 z1 z2 y1 y2
      have hcs := hide (show ColS w wr.heap.size x (wr.alloc (.cells #[.int .i64 x.id, .string x.name, .int .i64 x.kind, .bool x.null, .bool x.dflt.null, .int .i64 x.dflt.n, .string x.dflt.s] 56)) from ⟨Old.alloc HO.out _, _, heap_alloc_new _ _⟩)
      go_upto_region 11 with fail
      go_upto_region 12 with (at_builtin; refine wpList_plain rfl (fun K hK => ?_); refine step_push_text _ _ _ rfl w.heap.size _ ((cols.map Col.name).take k) rfl (own_old HTO.out (Old.alloc (Old.alloc (Old.refl _) _) _)) _ _ x.name rfl (by go_simp) hl2 ((HO.out.alloc _).alloc _).size ?_; intro v7 w7 own7 kept7; refine hK _ _ ?_; clear hK)
      have ho : ColS w wr.heap.size x w7 := ColS.kept (hcs.out.alloc _) kept7 (Nat.le_refl _) (by decide)
      have O7 := hide (kept7.old ((HO.out.alloc _).alloc _) (Nat.le_refl _))
      have T7 := hide own7
      have P7 := hide (PartsOwn.kept (HPO.out.old (Old.alloc (Old.alloc (Old.refl _) _) _)) kept7 (by decide) (by decide))
      clear own7 kept7 e0 e1 e2 e3 e4 e5 e6
      have x2 : ∀ w', ColS w wr.heap.size x w' → w'.cell? ⟨wr.heap.size, 2, none⟩ = some (.int .i64 x.kind) := fun w' o => o.cell rfl
      have x3 : ∀ w', ColS w wr.heap.size x w' → w'.cell? ⟨wr.heap.size, 3, none⟩ = some (.bool x.null) := fun w' o => o.cell rfl
      have f0 : ∀ w', ColS w wr.heap.size x w' → w'.cell? ⟨b2, o2 + k * 3, none⟩ = some (.bool c.null) := fun w' o => o.1.cell Z0.out
      have f1 : ∀ w', ColS w wr.heap.size x w' → w'.cell? ⟨b2, o2 + k * 3 + 1, none⟩ = some (.int .i64 c.n) := fun w' o => o.1.cell Z1.out
      have f2 : ∀ w', ColS w wr.heap.size x w' → w'.cell? ⟨b2, o2 + k * 3 + 2, none⟩ = some (.string c.s) := fun w' o => o.1.cell Z2.out
      have hod : Old w w7.drew := Old.drew ho.1
      clear hcs
      go_wp2_with fail
      go_region_held3 (fun w' => ColS w wr.heap.size x w')
       (first | assumption | (exact ColS.drew ho) | (exact ColS.step (ColS.drew ho) o8) | (exact ColS.alloc (ColS.step (ColS.drew ho) o8) _) | (exact ColS.kept (ColS.alloc (ColS.step (ColS.drew ho) o8) _) kept9 (Nat.le_refl _) (by decide)))
       (first
         | (go_at_call 38; (with_reducible refine (CV.out _ hod).mono ?_); rintro e w8 ⟨v8, rfl, n8, o8⟩; obtain ⟨A8, c8, rfl, q8, r8⟩ := nodes_form n8 (show (leafC x.kind c).length = 1 from rfl); unfold maxLen at r8)
         | (refine step_push_part _ _ _ rfl w.heap.size _ ((partsC cols r).take k) rfl (P7.out.old (Old.alloc (Old.trans (Old.drew (Old.refl _)) o8) _)) _ _ (.slice A8 1 c8) (leafC x.kind c) rfl (by go_simp) (SlT.mono (SlT.old n8 (Old.alloc (Old.refl _) _)) (O7.out.drew).size) hl1 (((Old.trans O7.out.drew o8)).alloc _).size ?_; intro v9 w9 own9 kept9)
         | (fail "none"))
      all_goals
       have T9 := hide (Kept.own kept9 (own_old T7.out (Old.alloc (Old.trans (Old.drew (Old.refl _)) o8) _)) (by decide))
       have O9 := hide (show Old w w9 from (show ColS w wr.heap.size x w9 by assumption).1)
       have P9 := hide own9
       clear own9 kept9 x2 x3 f0 f1 f2
       go_wp2_with fail
       go_roundw
       case rel => exact ⟨k + 1, by go_num, by omega, hide (by rw [HTN.out]; exact T9.out), hide (by rw [HPN.out]; exact P9.out), O9⟩
       case measure => simp [intOf]; omega
    · have hli : ¬ (k : Int) < (cols.length : Int) := by omega
      have hkk : k = cols.length := by omega
      have CO := hide (obj_run u7 u8 (cols.map Col.name) (partsC cols r) out er wr (by
       have := TextsOwn.is HTO.out
       rwa [hkk, List.take_of_length_le (by simp)] at this) (names_sizes HN.out) (by
       have := HPO.out.is
       rwa [hkk, List.take_of_length_le (by simp [partsC]; omega)] at this) (partsC_texts H0.out) (HT.out.old HO.out) HOB.out)
      go_wp2_with fail
      refine CO.out.mono ?_
      rintro e w3 ⟨v3, rfl, n3, o3⟩
      have N3 := hide (SlT.mono n3 HO.out.size)
      have O3 := hide (Old.trans HO.out o3)
      clear n3 o3
      go_wp2_with fail
      go_ret2
      exact ⟨_, rfl, N3.out, O3.out⟩
end Go.Proofs.YthlfljmfggmfdaaGreatDoor

/-! ###  -/
namespace Go.Proofs.YthlfljmfggmfdaaGreatDoor
open Go.RowKit Go.Maps Go.WideMaps
section
variable {P : Program} {k : TypeId} {w : World} {b n : Nat} {q : Prop} {m : ByteArray → Option Value}
def TM (P : Program) (k : TypeId) (w : World) (b n : Nat) (q : Prop) (m : ByteArray → Option Value) : Prop := ∃ D : DW, w.ownsMap P k rawR b n D ∧ Tidy D ∧ (q → Has D m ∧ Maps.size D = n)
theorem TM.made (w : World) (P : Program) (k : TypeId) (q : Prop) : TM P k (w.alloc (.map #[] 0)) w.heap.size 0 q (fun _ => none) :=
 ⟨.map [], World.ownsMap_made w P k rawR, tidy_empty, fun _ => ⟨⟨fun _ => rfl, fun _ _ h => by cases h⟩, rfl⟩⟩
theorem TM.lt (h : TM P k w b n q m) : b < w.heap.size := by obtain ⟨D, h1, _⟩ := h; exact h1.lt
theorem TM.old {w' : World} (h : TM P k w b n q m) (o : Old w w') : TM P k w' b n q m := by
 obtain ⟨D, ⟨es, c, h1, h2⟩, h3⟩ := h
 exact ⟨D, ⟨es, c, (o.block b (by exact block_lt h1)).trans h1, h2⟩, h3⟩
theorem TM.congr {m' : ByteArray → Option Value} (h : TM P k w b n q m) (e : q → m = m') : TM P k w b n q m' := by
 obtain ⟨D, h1, h2, h3⟩ := h
 exact ⟨D, h1, h2, fun hq => ⟨e hq ▸ (h3 hq).1, (h3 hq).2⟩⟩
theorem TM.put {t e : TypeId} (h : TM P k w b n q m) (hk : P.underlying k = some .string) (ht : P.underlying t = some (.map k e)) (hn : n < maxLen) {s : ByteArray} (hs : s.size ≤ maxLen) (v : Value) (hnew : q → m s = none) :
 ∃ w', (Instr.mapUpdate t (.map (some b)) (.string s) v).run P w = .ok () w' ∧ TM P k w' b (n + 1) q (upd m s (some v)) ∧ w.grownBy w' (some b) := by
 obtain ⟨D, h1, h2, h3⟩ := h
 obtain ⟨w', hrun, h4, h5⟩ := h1.update (string_keyed hk) ht hn (keyOf_string_mk hk hs) (d := .held v) (ps := []) rfl
 refine ⟨w', hrun, ⟨_, h4, h2.put (by simp [WideAt.IsKeyLit]) _, fun hq => ⟨(h3 hq).1.put h1.isMap s v, ?_⟩⟩, h5⟩
 rw [size_put h2, (h3 hq).1.has, hnew hq]
 simp [(h3 hq).2]
theorem TM.len {t e : TypeId} (h : TM P k w b n q m) (hq : q) (ht : P.underlying t = some (.map k e)) (ty : TypeId) : (Builtin.len_ #[t] ty #[.map (some b)]).run P w = .ok (.int .i64 n) w := by
 obtain ⟨D, h1, _, h3⟩ := h
 rw [← (h3 hq).2]
 exact h1.len ht ty
theorem TM.look {t e : TypeId} (h : TM P k w b n q m) (hq : q) (hk : P.underlying k = some .string) (ht : P.underlying t = some (.map k e)) {z : Value} (hz : (zeroValue e).run P w = .ok z w) {s : ByteArray} (hs : s.size ≤ maxLen) :
 (Instr.lookup t (.map (some b)) (.string s) false).run P w = .ok ((m s).getD z) w := by
 obtain ⟨D, h1, _, h3⟩ := h
 exact TMap.look ⟨D, h1, (h3 hq).1⟩ hk ht hz hs
theorem TM.look_ok {t e : TypeId} (h : TM P k w b n q m) (hq : q) (hk : P.underlying k = some .string) (ht : P.underlying t = some (.map k e)) {z : Value} (hz : (zeroValue e).run P w = .ok z w) {s : ByteArray} (hs : s.size ≤ maxLen) :
 (Instr.lookup t (.map (some b)) (.string s) true).run P w = .ok (.tuple #[(m s).getD z, .bool (m s).isSome]) w := by
 obtain ⟨D, h1, _, h3⟩ := h
 obtain ⟨h2, _⟩ := h3 hq
 obtain ⟨v, ps, hrun, hv⟩ := h1.look_ok (string_keyed hk) ht hz (zd := .held z) (zp := []) rfl (keyOf_string_mk hk hs)
 rw [hrun, h2.has]
 simp only [rawR, Option.some.injEq, Prod.mk.injEq] at hv
 have hv1 := hv.1
 cases hm : m s with
 | none =>
   rw [Maps.atKey_of_not_has (by rw [h2.has, hm]; rfl)] at hv1
   injection hv1 with hv1
   rw [hv1]; rfl
 | some u =>
   rw [h2.at_ s u hm] at hv1
   injection hv1 with hv1
   rw [hv1]; rfl
end
def memM (l : List J) : ByteArray → Option Value := fun s => (findM l s).map fun j => Nv j.hd (j.flat.length : Int)
theorem memM_next {l : List J} {j : J} (h : findM l j.key = none) : upd (memM l) j.key (some (Nv j.hd (j.flat.length : Int))) = memM (l ++ [j]) := by
 funext s
 unfold upd memM findM at *
 rw [List.find?_append]
 by_cases e : s = j.key
 · subst e
   rw [h]
   simp
 · rw [if_neg e]
   have h2 : ¬ j.key = s := fun x => e x.symm
   cases List.find? (fun j => decide (j.key = s)) l <;> simp [h2]
theorem keysOk_nd {V : ByteArray → Bool} : ∀ {l had : List ByteArray}, keysOk V had l → l.Nodup ∧ ∀ k ∈ l, k ∉ had
 | [], _, _ => ⟨List.nodup_nil, fun _ h => by cases h⟩
 | k :: l, had, h => by
   obtain ⟨_, h2, h3⟩ := h
   obtain ⟨h4, h5⟩ := keysOk_nd h3
   refine ⟨List.nodup_cons.2 ⟨fun hk => h5 k hk (by simp), h4⟩, fun x hx => ?_⟩
   rcases List.mem_cons.1 hx with rfl | hx
   · exact h2
   · exact fun hh => h5 x hx (by simp [hh])
theorem keys_nodup {t : List Nd} {h : Hd} {l : List J} (hm : May t (.mk h l)) (h7 : h.kind = 7) : (l.map J.key).Nodup := by
 have hok := hm.1.1
 rw [J.Ok] at hok
 rcases hok with ⟨h1, _⟩ | ⟨h1, _⟩ | ⟨_, _, _, h1⟩
 · rcases h1 with ⟨h1 | h1 | h1, _⟩ | ⟨h1, _⟩ | ⟨h1, _⟩ <;> omega
 · omega
 · exact (keysOk_nd h1).1
theorem find_take {l : List J} {k : Nat} (hk : k < l.length) (hn : (l.map J.key).Nodup) : findM (l.take k) l[k].key = none := by
 unfold findM
 rw [List.find?_eq_none]
 intro x hx
 obtain ⟨i, hi, e⟩ := List.mem_take_iff_getElem.1 hx
 have hlt : i < k := by omega
 have h := (List.pairwise_iff_getElem.1 hn) i k (by simp; omega) (by simpa using hk) hlt
 simp only [List.getElem_map] at h
 rw [e] at h
 simpa using h
theorem kid_key_size {t : List Nd} {h : Hd} {l : List J} (hx : TextsOk t) (hm : May t (.mk h l)) {j : J} (hj : j ∈ l) : j.hd.key.size ≤ maxLen :=
 (hx ⟨j.hd.kind, j.hd.key, j.hd.n, j.hd.s, j.flat.length⟩ (by rw [hm.1.2.2, flat_mk]; exact List.mem_cons_of_mem _ (flats_has hj))).1
end Go.Proofs.YthlfljmfggmfdaaGreatDoor
