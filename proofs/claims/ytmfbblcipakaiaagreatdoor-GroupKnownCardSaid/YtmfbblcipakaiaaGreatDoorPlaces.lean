/- The places of items, sorted by rows: the walk of items.sorted, and what its answer says. -/
import Derived.Test.YtmfbblcipakaiaaGreatDoorPdq
import Derived.Test.YtmfbblcipakaiaaGreatDoorOrder
namespace Go.Proofs.YtmfbblcipakaiaaGreatDoor
open Go.RowKit Go.Sort

def itemAt (l : List Item) (x : Int) : Item := (l[x.toNat]?).getD ⟨[], 0⟩
theorem itemAt_eq {l : List Item} {x : Int} {k : Nat} (hx : x = k) (hk : k < l.length) : itemAt l x = l[k] := by
  subst hx
  simp [itemAt, List.getElem?_eq_getElem hk]
def upTo (n : Nat) : Array Int := ((List.range n).map (fun i : Nat => (i : Int))).toArray
theorem upTo_size (n : Nat) : (upTo n).size = n := by simp [upTo]
theorem upTo_at {n i : Nat} (h : i < n) : (upTo n)[i]! = i := by simp [upTo, h]
def inOrder (l : List Item) (d : Array Int) : List Item := d.toList.map (itemAt l)
theorem inOrder_upTo (l : List Item) : inOrder l (upTo l.length) = l := by
  apply List.ext_getElem
  · simp [inOrder, upTo]
  · intro i h1 h2
    simp [inOrder, upTo, itemAt, h2]
def placeCmp (l : List Item) (x y : Int) : Int := rowCmp (itemAt l x).row (itemAt l y).row
theorem place_swo (l : List Item) : SWO (ltOf (placeCmp l)) where
  irrefl x := by simp [ltOf, placeCmp, rowCmp_self]
  trans x y z h1 h2 := by
    simp only [ltOf, decide_eq_true_eq] at h1 h2 ⊢
    unfold placeCmp at *
    exact rowCmp_trans h1 h2
  ntrans x y z h1 h2 := by
    simp only [ltOf, decide_eq_false_iff_not] at h1 h2 ⊢
    unfold placeCmp at *
    have e1 := rowCmp_swap (itemAt l x).row (itemAt l y).row
    have e2 := rowCmp_swap (itemAt l y).row (itemAt l z).row
    have e3 := rowCmp_swap (itemAt l x).row (itemAt l z).row
    have := rowCmp_le_trans (a := (itemAt l z).row) (b := (itemAt l y).row) (c := (itemAt l x).row) (by omega) (by omega)
    omega
/-- d is the places of l, in the order of the rows -/
structure Places (l : List Item) (d : Array Int) : Prop where
  size : d.size = l.length
  range : ∀ i, i < l.length → 0 ≤ d[i]! ∧ d[i]! < l.length
  perm : (inOrder l d).Perm l
  rise : ∀ i j, i < j → j < l.length → rowCmp (itemAt l d[i]!).row (itemAt l d[j]!).row ≤ 0
theorem Places.of_sorted {l : List Item} {d : Array Int} (hp : PermIn 0 (upTo l.length).size (upTo l.length) d) (hs : SortedIn (ltOf (placeCmp l)) 0 (upTo l.length).size d) : Places l d := by
  obtain ⟨h1, _, h3⟩ := hp
  rw [upTo_size] at *
  have hd : (d.extract 0 l.length) = d := by rw [← h1]; simp
  have hu : ((upTo l.length).extract 0 l.length) = upTo l.length := by
    have := upTo_size l.length
    rw [show (upTo l.length).extract 0 l.length = (upTo l.length).extract 0 (upTo l.length).size by rw [this]]
    simp
  rw [hd, hu] at h3
  refine ⟨h1, fun i hi => ?_, ?_, fun i j hij hj => ?_⟩
  · have hm : d[i]! ∈ d.toList := by
      have : i < d.size := by omega
      simp [this]
    have := h3.mem_iff.1 hm
    simp only [upTo, List.mem_map, List.mem_range] at this
    obtain ⟨k, hk, e⟩ := this
    omega
  · have := h3.map (itemAt l)
    rw [show (upTo l.length).toList.map (itemAt l) = l from inOrder_upTo l] at this
    exact this
  · have := hs i j (by omega) hij hj
    simp only [ltOf, decide_eq_false_iff_not] at this
    unfold placeCmp at this
    rw [rowCmp_swap] at this
    omega

/-- i places written -/
def some_ (n k : Nat) : Array Int := ((List.range n).map (fun i : Nat => if i < k then (i : Int) else 0)).toArray
theorem some_zero (n : Nat) : some_ n 0 = Array.replicate n 0 := by
  apply Array.ext <;> simp [some_]
theorem some_size (n k : Nat) : (some_ n k).size = n := by simp [some_]
theorem some_next (n k : Nat) : (some_ n k).setIfInBounds k k = some_ n (k + 1) := by
  unfold some_
  rw [List.setIfInBounds_toArray]
  congr 1
  apply List.ext_getElem
  · simp
  · intro i h1 h2
    simp only [List.getElem_set, List.getElem_map, List.getElem_range]
    by_cases e : k = i
    · subst e; simp
    · rw [if_neg e]
      by_cases h : i < k
      · rw [if_pos h, if_pos (by omega)]
      · rw [if_neg h, if_neg (by omega)]
theorem some_all (n : Nat) : some_ n n = upTo n := by
  unfold some_ upTo
  congr 1
  apply List.ext_getElem
  · simp
  · intro i h1 h2
    simp only [List.getElem_map, List.getElem_range]
    rw [if_pos (by simpa using h1)]

theorem intInfo : (Tryz.prog.info? 3).map (fun i => (i.zero, i.size, i.bytes)) = some (some (.int .i64 0), 1, 8) := by kernel_rfl
theorem make_ints (n : Nat) (hn : n ≤ 1048576) (w : World) : (Instr.makeSlice 67 (.int .i64 n) (.int .i64 n)).run Tryz.prog w = .ok (.slice (some ⟨w.heap.size, 0, none⟩) n n) (w.alloc (.cells ((some_ n 0).map (Value.int .i64)) 3)) := by
  obtain ⟨i, hi, hz0, hz1, hz2⟩ := info_parts intInfo
  rw [run_makeSlice w 67 3 i _ Tryz.underlying67 hi hz0 .i64 .i64 n n (by omega) (by omega) (by rw [hz1]; omega) (by rw [hz2]; omega) (by omega)]
  have : madeCells (Value.int .i64 0).cells ((n : Int).toNat * i.size) = (some_ n 0).map (Value.int .i64) := by
    rw [hz1, some_zero]
    have := toList_madeCells_one (.int .i64 0) n
    apply Array.toList_inj.1
    simp only [Int.toNat_natCast, Nat.mul_one]
    rw [show (Value.int IntKind.i64 0).cells = #[.int .i64 0] from rfl, this]
    simp
  rw [this]
  simp
theorem grown_new {w0 w w' : World} {g : Nat} (h : Old w0 w) (k : w.grownBy w' (some g)) (hg : w0.heap.size ≤ g) : Old w0 w' :=
  Below.grown h k h.size (fun k hk => by injection hk with hk; omega)

set_option maxRecDepth 100000 in
set_option maxHeartbeats 1000000 in
theorem items_sorted (v : Value) (l : List Item) (w : World) (hl : ItemsIs w v l) (hn : l.length ≤ 1048576) :
    Calls Tryz.prog 50 #[v] w fun e w' => ∃ g d, e = .returned (.slice (some ⟨g, 0, none⟩) l.length l.length) ∧ w.heap.size ≤ g ∧ IntsAt w' g d ∧ Places l d ∧ Old w w' := by
  have HL := Lib.hid hl
  obtain ⟨A, ca, us, rfl, hla, hma, hul, hur, ha⟩ := hl.open_
  unfold maxLen at hma
  clear hur ha
  have mk := make_ints l.length hn
  have hsort : ∀ w1, Old w w1 → IntsAt w1 w.heap.size (upTo l.length) → Calls Tryz.prog 72 #[.slice (some ⟨w.heap.size, 0, none⟩) l.length l.length, .func (.func 52) #[.slice A l.length ca] #[]] w1 fun e w' =>
      e = .returned (.tuple #[]) ∧ ∃ d, IntsAt w' w.heap.size d ∧ Places l d ∧ Old w w' := fun w1 h1 hi => by
    have k := SortFunc_run w.heap.size l.length 52 (.slice A l.length ca) (fun x => 0 ≤ x ∧ x < l.length) (placeCmp l) (fun _ _ => by kernel_rfl) (upTo l.length) w1 hi
      (fun i hi => by rw [upTo_size] at hi; rw [upTo_at hi]; omega) ?_ (place_swo l) (by rw [upTo_size]; omega)
    · rw [upTo_size] at k
      refine k.mono ?_
      rintro e w2 ⟨he, d, p1, p2, h2⟩
      exact ⟨he, d, h2.ints, Places.of_sorted (by rw [upTo_size]; exact p1) (by rw [upTo_size]; exact p2), grown_new h1 h2.grown (Nat.le_refl _)⟩
    · intro d w2 h2 x y hx hy
      obtain ⟨i, rfl⟩ := Int.eq_ofNat_of_zero_le hx.1
      obtain ⟨j, rfl⟩ := Int.eq_ofNat_of_zero_le hy.1
      have hi : i < l.length := by omega
      have hj : j < l.length := by omega
      have := items_order _ l i j w2 (HL.out.old (grown_new h1 h2.grown (Nat.le_refl _))) hi hj
      rw [show rowCmp l[i].row l[j].row = placeCmp l i j by unfold placeCmp; rw [itemAt_eq rfl hi, itemAt_eq rfl hj]] at this
      simpa using this
  have HS := Lib.hid hsort
  clear hsort hl
  go_enter Tryz.func50, Tryz.ntmps50
  go_wp2_with fail
  go_loopw [4, 10] (fun _ i wr => ∃ k : Nat, i = .int .i64 k ∧ k ≤ l.length ∧ Hid (IntsAt wr w.heap.size (some_ l.length k)) ∧ Old w wr) (fun _ i _ => l.length - (intOf i).toNat)
  case atStart => exact ⟨0, rfl, by omega, hide (show (w.heap.push _)[w.heap.size]? = some _ from Array.getElem?_push_size), (Old.refl w).alloc _⟩
  case round =>
    obtain ⟨k, rfl, hk, HI, hbl⟩ := hrel
    by_cases hlt : k < l.length
    · have hc := HI.out.cell (i := k) (by rw [some_size]; exact hlt)
      have hf := HI.out.free k
      have hset := hide (HI.out.set k k)
      rw [some_next] at hset
      generalize (some_ l.length k)[k]! = x at hc
      clear HI
      go_wp2_with fail
      go_roundw
      case rel => exact ⟨k + 1, by go_num, by omega, hset, hbl.setCell (Nat.le_refl _) _⟩
      case measure => simp [intOf]; omega
    · have hkl : k = l.length := by omega
      have hI := HI.out
      rw [hkl, some_all] at hI
      have HI2 := hide hI
      clear HI hI
      go_wp2_with fail
      refine (HS.out _ hbl HI2.out).mono ?_
      rintro e w2 ⟨rfl, d, h1, h2, h3⟩
      go_wp2_with fail
      go_ret
      exact ⟨_, _, rfl, Nat.le_refl _, h1, h2, h3⟩
end Go.Proofs.YtmfbblcipakaiaaGreatDoor

