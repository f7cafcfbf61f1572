/- Tapes of one node. -/
import Derived.Test.YtkefhhnbkhijgaaDoorCheck
namespace Go.Proofs.YtkefhhnbkhijgaaDoor
open Go.RowKit

/-- new nodes are handed back -/
def NewNodes (w0 : World) (l : List Nd) (e : Ending) (w' : World) : Prop := ∃ v, e = .returned v ∧ NodesT w0.heap.size w' v l ∧ Old w0 w'
def leafT (kind n : Int) (s : ByteArray) : List Nd := [⟨kind, none_, n, s, 1⟩]
theorem heap_new (w : World) (o : Obj) (n : Nat) (h : w.heap.size = n) : (w.alloc o).heap[n]? = some o := by
  subst h
  exact heap_alloc_new w o
theorem one_node (w : World) (x : Nd) (n : Nat) (h : w.heap.size = n) (lo : Nat) (hlo : lo ≤ n) : NodesT lo (w.alloc (.cells #[.int .i64 x.kind, .string x.key, .int .i64 x.n, .string x.s, .int .i64 x.size] 57)) (.slice (some ⟨n, 0, none⟩) 1 1) [x] := by
  refine ⟨_, _, rfl, Nat.le_refl _, by unfold maxLen; omega, fun _ => ⟨n, 0, _, rfl, hlo, heap_new _ _ _ h, fun j u hu => ?_⟩⟩
  rw [ndVals_one] at hu
  rw [Nat.zero_add]
  simpa [Nd.vals] using hu

set_option maxRecDepth 100000 in
theorem leaf_run (kind n : Int) (s : ByteArray) (w : World) : Calls Tryd.prog 47 #[.int .i64 kind, .int .i64 n, .string s] w (NewNodes w (leafT kind n s)) := by
  go_enter Tryd.func47, Tryd.ntmps47
  go_wp2_with fail
  go_ret
  exact ⟨_, rfl, one_node w ⟨kind, none_, n, s, 1⟩ _ rfl _ (Nat.le_refl _), (Old.refl w).alloc _⟩
set_option maxRecDepth 100000 in
theorem null_run (w : World) : Calls Tryd.prog 14 #[] w (NewNodes w (leafT 1 0 none_)) := by
  have C := hide (leaf_run 1 0 none_ w)
  go_enter Tryd.func14, Tryd.ntmps14
  go_wp2_with fail
  refine C.out.mono ?_
  rintro e w1 ⟨v, rfl, h1, h2⟩
  go_wp2_with fail
  go_ret
  exact ⟨_, rfl, h1, h2⟩
set_option maxRecDepth 100000 in
theorem num_run (n : Int) (w : World) : Calls Tryd.prog 18 #[.int .i64 n] w (NewNodes w (leafT 4 n none_)) := by
  have C := hide (leaf_run 4 n none_ w)
  go_enter Tryd.func18, Tryd.ntmps18
  go_wp2_with fail
  refine C.out.mono ?_
  rintro e w1 ⟨v, rfl, h1, h2⟩
  go_wp2_with fail
  go_ret
  exact ⟨_, rfl, h1, h2⟩
set_option maxRecDepth 100000 in
theorem bool_run (b : Bool) (w : World) : Calls Tryd.prog 16 #[.bool b] w (NewNodes w (leafT (if b then 3 else 2) 0 none_)) := by
  cases b
  · have C := hide (leaf_run 2 0 none_ w)
    go_enter Tryd.func16, Tryd.ntmps16
    go_wp2_with fail
    refine C.out.mono ?_
    rintro e w1 ⟨v, rfl, h1, h2⟩
    go_wp2_with fail
    go_ret
    exact ⟨_, rfl, h1, h2⟩
  · have C := hide (leaf_run 3 0 none_ w)
    go_enter Tryd.func16, Tryd.ntmps16
    go_wp2_with fail
    refine C.out.mono ?_
    rintro e w1 ⟨v, rfl, h1, h2⟩
    go_wp2_with fail
    go_ret
    exact ⟨_, rfl, h1, h2⟩
def strT (s : ByteArray) : List Nd := if vU s then leafT 5 0 s else []
set_option maxRecDepth 100000 in
theorem str_run (s : ByteArray) (w : World) (hs : s.size ≤ 9223372036854775807) (hT : Tabs w) : Calls Tryd.prog 19 #[.string s] w (NewNodes w (strT s)) := by
  have C := hide (show ∀ w', Old w w' → Calls Tryd.prog 47 #[.int .i64 5, .int .i64 0, .string s] w' fun e w2 => ∃ v, e = .returned v ∧ NodesT w.heap.size w2 v (leafT 5 0 s) ∧ Old w w2 from fun w' h =>
    (leaf_run 5 0 s w').mono fun _ _ ⟨v, h1, h2, h3⟩ => ⟨v, h1, h2.mono h.size, Old.trans h h3⟩)
  have CV := hide (utf_Valid s w hs hT)
  cases hv : vU s
  · rw [hv] at CV
    have E := hide (show strT s = [] by unfold strT; rw [hv]; rfl)
    clear hs hT hv C
    go_enter Tryd.func19, Tryd.ntmps19
    go_wp2_with fail
    refine CV.out.mono ?_
    rintro e w1 ⟨rfl, o1⟩
    go_wp2_with fail
    go_ret
    exact ⟨_, rfl, by rw [E.out]; exact SlT.nil_ _, o1⟩
  · rw [hv] at CV
    have E := hide (show strT s = leafT 5 0 s by unfold strT; rw [hv]; rfl)
    clear hs hT hv
    go_enter Tryd.func19, Tryd.ntmps19
    go_wp2_with fail
    refine CV.out.mono ?_
    rintro e w1 ⟨rfl, o1⟩
    go_wp2_with fail
    refine (C.out _ o1).mono ?_
    rintro e w2 ⟨v, rfl, h1, h2⟩
    go_wp2_with fail
    go_ret
    exact ⟨_, rfl, by rw [E.out]; exact h1, h2⟩
end Go.Proofs.YtkefhhnbkhijgaaDoor
