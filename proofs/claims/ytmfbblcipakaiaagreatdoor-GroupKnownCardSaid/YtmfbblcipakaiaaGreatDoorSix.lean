/- The document's numbers of six digits to the base 2^32: sums, products, comparisons. -/
import Derived.Test.YtmfbblcipakaiaaGreatDoorSame
namespace Go.Proofs.YtmfbblcipakaiaaGreatDoor
open Go.RowKit

def lo32 (z : Int) : Int := z % 4294967296
def hi32 (z : Int) : Int := z / 4294967296
def hn (s : Int) : Nat → Int
  | 0 => s
  | k + 1 => hi32 (hn s k)
def dg (s : Int) (k : Nat) : Int := lo32 (hn s k)
theorem dg_bd (s : Int) (k : Nat) : 0 ≤ dg s k ∧ dg s k < 4294967296 := by unfold dg lo32; omega
@[reducible] def six (s : Int) : Value := .agg #[.int .u64 (dg s 0), .int .u64 (dg s 1), .int .u64 (dg s 2), .int .u64 (dg s 3), .int .u64 (dg s 4), .int .u64 (dg s 5)]
def carry (s t : Int) (k : Nat) : Int := hn (s + t) k - hn s k - hn t k
theorem carry_zero (s t : Int) : carry s t 0 = 0 := by unfold carry hn; omega
theorem carry_bd (s t : Int) : ∀ k, 0 ≤ carry s t k ∧ carry s t k ≤ 1
  | 0 => by rw [carry_zero]; omega
  | k + 1 => by
    have := carry_bd s t k
    unfold carry at *
    unfold hn hi32
    omega
theorem carry_next (s t : Int) (k : Nat) : (dg s k + dg t k + carry s t k) % 4294967296 = dg (s + t) k ∧ (dg s k + dg t k + carry s t k) / 4294967296 = carry s t (k + 1) := by
  unfold carry dg
  simp only [hn]
  unfold lo32 hi32
  omega
theorem hn_neg (s : Int) : ∀ k, hn (-s - 1) k = - hn s k - 1
  | 0 => rfl
  | k + 1 => by
    have := hn_neg s k
    unfold hn hi32
    rw [this]
    omega
theorem dg_neg (s : Int) (k : Nat) : 4294967295 - dg s k = dg (-s - 1) k := by
  unfold dg lo32
  rw [hn_neg]
  omega
/-- the first k digits of s -/
def firstD (s : Int) (k : Nat) : Array Value := ((List.range 6).map fun i => Value.int .u64 (if i < k then dg s i else 0)).toArray
theorem first_size (s : Int) (k : Nat) : (firstD s k).size = 6 := by simp [firstD]
theorem first_next (s : Int) (k : Nat) : (firstD s k).setIfInBounds k (.int .u64 (dg s k)) = firstD s (k + 1) := by
  unfold firstD
  rw [List.setIfInBounds_toArray]
  congr 1
  apply List.ext_getElem
  · simp
  · intro i h1 h2
    simp only [List.getElem_set, List.getElem_map, List.getElem_range]
    by_cases e : k = i
    · subst e; simp
    · rw [if_neg e]
      by_cases h : i < k
      · rw [if_pos h, if_pos (by omega)]
      · rw [if_neg h, if_neg (by omega)]
theorem first_all (s : Int) : firstD s 6 = #[.int .u64 (dg s 0), .int .u64 (dg s 1), .int .u64 (dg s 2), .int .u64 (dg s 3), .int .u64 (dg s 4), .int .u64 (dg s 5)] := by simp [firstD, List.range, List.range.loop]
theorem first_none (s : Int) : firstD s 0 = #[.int .u64 0, .int .u64 0, .int .u64 0, .int .u64 0, .int .u64 0, .int .u64 0] := by simp [firstD, List.range, List.range.loop]
theorem six_cell {w : World} {q : Nat} {s : Int} {T : TypeId} (h : w.heap[q]? = some (.cells (firstD s 6) T (0, 0))) {k : Nat} (hk : k < 6) : w.cell? ⟨q, k, none⟩ = some (.int .u64 (dg s k)) := by
  rw [cell_of_heap h]
  simp [firstD, hk]

theorem heap_new (w : World) (o : Obj) (n : Nat) (h : w.heap.size = n) : (w.alloc o).heap[n]? = some o := by subst h; exact Array.getElem?_push_size
theorem set_other {w : World} {b : Nat} {o : Obj} (h : w.heap[b]? = some o) {p i : Nat} {u : Value} (hne : p ≠ b) : (w.setCell ⟨p, i, none⟩ u).heap[b]? = some o := by
  simp [World.setCell, Array.getElem?_modify, h, hne]
theorem set_here {w : World} {p i : Nat} {cs : Array Value} {T : TypeId} {f : Nat × Nat} (h : w.heap[p]? = some (.cells cs T f)) {u : Value} : (w.setCell ⟨p, i, none⟩ u).heap[p]? = some (.cells (cs.setIfInBounds i u) T f) := by
  simp [World.setCell, Array.getElem?_modify, h]
theorem six_free {w : World} {q : Nat} {s : Int} {T : TypeId} {n : Nat} (h : w.heap[q]? = some (.cells (firstD s n) T (0, 0))) (k : Nat) : w.frozen? ⟨q, k, none⟩ = false := free_of_heap h
theorem zero_cell {w : World} {q : Nat} {T : TypeId} (h : w.heap[q]? = some (.cells (firstD 0 0) T (0, 0))) {k : Nat} (hk : k < 6) : w.cell? ⟨q, k, none⟩ = some (.int .u64 0) := by
  rw [cell_of_heap h]
  simp [firstD, hk]
theorem old_six {w0 w : World} (h : Old w0 w) {p : Nat} (hp : w0.heap.size ≤ p) (u0 u1 u2 u3 u4 u5 : Value) :
    Old w0 ((((((w.setCell ⟨p, 0, none⟩ u0).setCell ⟨p, 1, none⟩ u1).setCell ⟨p, 2, none⟩ u2).setCell ⟨p, 3, none⟩ u3).setCell ⟨p, 4, none⟩ u4).setCell ⟨p, 5, none⟩ u5) :=
  (((((h.setCell hp u0).setCell hp u1).setCell hp u2).setCell hp u3).setCell hp u4).setCell hp u5
set_option maxRecDepth 100000 in
set_option maxHeartbeats 1000000 in
theorem six_Add (s t : Int) (w : World) : Calls Tryz.prog 87 #[six s, six t] w fun e w' => e = .returned (six (s + t)) ∧ Old w w' := by
  go_enter Tryz.func87, Tryz.ntmps87
  go_wp2_with fail
  go_loopw [6, 7] (fun ov iv wr => ∃ k : Nat, iv = .int .i64 k ∧ k ≤ 6 ∧ ov = .int .u64 (carry s t k) ∧ Old w wr ∧ Hid (wr.heap[w.heap.size]? = some (.cells (firstD s 6) 148 (0, 0))) ∧ Hid (wr.heap[w.heap.size + 1]? = some (.cells (firstD t 6) 148 (0, 0)))
    ∧ Hid (wr.heap[w.heap.size + 2]? = some (.cells (firstD 0 0) 148 (0, 0))) ∧ Hid (wr.heap[w.heap.size + 3]? = some (.cells (firstD (s + t) k) 148 (0, 0)))) (fun _ iv _ => 6 - (intOf iv).toNat)
  case atStart =>
    refine ⟨0, rfl, by omega, by rw [carry_zero], ((((Old.refl w).alloc _).alloc _).alloc _).alloc _, ?_, ?_, ?_, ?_⟩
    · rw [first_all]; exact Old.heap ((((Old.refl _).alloc _).alloc _).alloc _) (heap_new _ _ _ rfl)
    · rw [first_all]; exact Old.heap (((Old.refl _).alloc _).alloc _) (heap_new _ _ _ (by simp))
    · rw [first_none]; exact Old.heap ((Old.refl _).alloc _) (heap_new _ _ _ (by simp))
    · rw [first_none]; exact heap_new _ _ _ (by simp)
  case round =>
    obtain ⟨k, rfl, hk, rfl, hbl, H0, H1, H2, H3⟩ := hrel
    by_cases hlt : k < 6
    · have x0 := six_cell H0.out hlt
      have x1 := six_cell H1.out hlt
      obtain ⟨c1, c2⟩ := carry_next s t k
      have b1 := dg_bd s k
      have b2 := dg_bd t k
      have b3 := carry_bd s t k
      have C1 := hide c1
      have C2 := hide c2
      obtain ⟨y, hy⟩ : ∃ y, (firstD (s + t) k)[k]? = some y := ⟨_, Array.getElem?_eq_getElem (by rw [first_size]; exact hlt)⟩
      have x3 : wr.cell? ⟨w.heap.size + 3, k, none⟩ = some y := by rw [cell_of_heap H3.out]; exact hy
      have f3 : wr.frozen? ⟨w.heap.size + 3, k, none⟩ = false := free_of_heap H3.out
      obtain ⟨a, ha⟩ : ∃ a, Hid (a = dg s k) := ⟨_, rfl⟩
      obtain ⟨b, hb⟩ : ∃ b, Hid (b = dg t k) := ⟨_, rfl⟩
      obtain ⟨c, hc⟩ : ∃ c, Hid (c = carry s t k) := ⟨_, rfl⟩
      rw [← ha.out] at x0 b1 C1 C2
      rw [← hb.out] at x1 b2 C1 C2
      rw [← hc.out] at b3 C1 C2 ⊢
      clear c1 c2 hy
      go_wp2_with fail
      go_region
      go_wp2_with fail
      go_roundw
      case rel =>
        refine ⟨k + 1, by go_num, by omega, by rw [C2.out], Old.drew (hbl.setCell (p := ⟨w.heap.size + 3, k, none⟩) (by show _ ≤ w.heap.size + 3; omega) _), hide ?_, hide ?_, hide ?_, hide ?_⟩
        · exact set_other H0.out (by omega)
        · exact set_other H1.out (by omega)
        · exact set_other H2.out (by omega)
        · have := set_here (i := k) (u := .int .u64 (dg (s + t) k)) H3.out
          rw [first_next] at this
          rw [C1.out]
          exact this
      case measure => simp [intOf]; omega
    · have hk6 : k = 6 := by omega
      subst hk6
      have x0 := six_cell H3.out (k := 0) (by omega)
      have x1 := six_cell H3.out (k := 1) (by omega)
      have x2 := six_cell H3.out (k := 2) (by omega)
      have x3 := six_cell H3.out (k := 3) (by omega)
      have x4 := six_cell H3.out (k := 4) (by omega)
      have x5 := six_cell H3.out (k := 5) (by omega)
      have z0 := zero_cell H2.out (k := 0) (by omega)
      have z1 := zero_cell H2.out (k := 1) (by omega)
      have z2 := zero_cell H2.out (k := 2) (by omega)
      have z3 := zero_cell H2.out (k := 3) (by omega)
      have z4 := zero_cell H2.out (k := 4) (by omega)
      have z5 := zero_cell H2.out (k := 5) (by omega)
      have f0 := six_free H2.out
      go_wp2_with fail
      refine bodyPost_ret (v := six (s + t)) (by simp [results, Tryz.results87, go_sem, z0, z1, z2, z3, z4, z5]) rfl ⟨rfl, ?_⟩
      exact old_six hbl (by omega) _ _ _ _ _ _

set_option maxRecDepth 100000 in
set_option maxHeartbeats 1000000 in
theorem six_Neg (s : Int) (w : World) : Calls Tryz.prog 101 #[six s] w fun e w' => e = .returned (six (-s)) ∧ Old w w' := by
  have CA := hide (show ∀ w, Calls Tryz.prog 87 #[six (-s - 1), .agg #[.int .u64 1, .int .u64 0, .int .u64 0, .int .u64 0, .int .u64 0, .int .u64 0]] w fun e w' => e = .returned (six (-s)) ∧ Old w w' from fun w => by
    have := six_Add (-s - 1) 1 w
    rw [show -s - 1 + 1 = -s by omega] at this
    exact this)
  go_enter Tryz.func101, Tryz.ntmps101
  go_wp2_with fail
  go_loopw [4] (fun iv wr => ∃ k : Nat, iv = .int .i64 k ∧ k ≤ 6 ∧ Old w wr ∧ Hid (wr.heap[w.heap.size]? = some (.cells (firstD s 6) 148 (0, 0)))
    ∧ Hid (wr.heap[w.heap.size + 1]? = some (.cells (firstD 0 0) 148 (0, 0))) ∧ Hid (wr.heap[w.heap.size + 2]? = some (.cells (firstD (-s - 1) k) 148 (0, 0)))) (fun iv _ => 6 - (intOf iv).toNat)
  case atStart =>
    refine ⟨0, rfl, by omega, (((Old.refl w).alloc _).alloc _).alloc _, ?_, ?_, ?_⟩
    · rw [first_all]; exact Old.heap (((Old.refl _).alloc _).alloc _) (heap_new _ _ _ rfl)
    · rw [first_none]; exact Old.heap ((Old.refl _).alloc _) (heap_new _ _ _ (by simp))
    · rw [first_none]; exact heap_new _ _ _ (by simp)
  case round =>
    obtain ⟨k, rfl, hk, hbl, H0, H1, H2⟩ := hrel
    by_cases hlt : k < 6
    · have x0 := six_cell H0.out hlt
      have b1 := dg_bd s k
      have C1 := hide (dg_neg s k)
      obtain ⟨y, hy⟩ : ∃ y, (firstD (-s - 1) k)[k]? = some y := ⟨_, Array.getElem?_eq_getElem (by rw [first_size]; exact hlt)⟩
      have x3 : wr.cell? ⟨w.heap.size + 2, k, none⟩ = some y := by rw [cell_of_heap H2.out]; exact hy
      have f3 : wr.frozen? ⟨w.heap.size + 2, k, none⟩ = false := free_of_heap H2.out
      obtain ⟨a, ha⟩ : ∃ a, Hid (a = dg s k) := ⟨_, rfl⟩
      rw [← ha.out] at x0 b1 C1
      clear hy
      go_wp2_with fail
      go_roundw
      case rel =>
        refine ⟨k + 1, by go_num, by omega, hbl.setCell (p := ⟨w.heap.size + 2, k, none⟩) (by show _ ≤ w.heap.size + 2; omega) _, hide ?_, hide ?_, hide ?_⟩
        · exact set_other H0.out (by omega)
        · exact set_other H1.out (by omega)
        · have := set_here (i := k) (u := .int .u64 (dg (-s - 1) k)) H2.out
          rw [first_next] at this
          rw [C1.out]
          exact this
      case measure => simp [intOf]; omega
    · have hk6 : k = 6 := by omega
      subst hk6
      have x0 := six_cell H2.out (k := 0) (by omega)
      have x1 := six_cell H2.out (k := 1) (by omega)
      have x2 := six_cell H2.out (k := 2) (by omega)
      have x3 := six_cell H2.out (k := 3) (by omega)
      have x4 := six_cell H2.out (k := 4) (by omega)
      have x5 := six_cell H2.out (k := 5) (by omega)
      go_wp2_with fail
      refine (CA.out _).mono ?_
      rintro e w2 ⟨rfl, h2⟩
      clear x0 x1 x2 x3 x4 x5
      have HH := hide (h2.heap H1.out)
      have z0 := zero_cell HH.out (k := 0) (by omega)
      have z1 := zero_cell HH.out (k := 1) (by omega)
      have z2 := zero_cell HH.out (k := 2) (by omega)
      have z3 := zero_cell HH.out (k := 3) (by omega)
      have z4 := zero_cell HH.out (k := 4) (by omega)
      have z5 := zero_cell HH.out (k := 5) (by omega)
      have f0 := six_free HH.out
      go_wp2_with fail
      refine bodyPost_ret (v := six (-s)) (by simp [results, Tryz.results101, go_sem, z0, z1, z2, z3, z4, z5]) rfl ⟨rfl, ?_⟩
      exact old_six (Old.trans hbl h2) (by omega) _ _ _ _ _ _
end Go.Proofs.YtmfbblcipakaiaaGreatDoor

