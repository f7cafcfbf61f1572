/- The walk of one run of Norm: the items of one row, summed up. -/
import Derived.Test.YtmfbblcipakaiaaGreatDoorPlaces
import Derived.Test.YtmfbblcipakaiaaGreatDoorWide2
import Derived.Test.YtmfbblcipakaiaaGreatDoorCopy
import Derived.Test.YtmfbblcipakaiaaGreatDoorTail
namespace Go.Proofs.YtmfbblcipakaiaaGreatDoor
open Go.RowKit Go.Sort

theorem grown_setNew {w0 w : World} {r : Option Nat} (h : w0.grownBy w r) {p : Addr} (hp : w0.heap.size ≤ p.block) (u : Value) : w0.grownBy (w.setCell p u) r :=
  ⟨h.os, h.tape, h.output, by simpa using h.size, fun k hk hne => (Below.heap_setCell w p u k (fun e => by omega)).trans (h.block k hk hne)⟩

/-- what the items at the places from k0 to below k weigh together, of a row -/
def segW (l : List Item) (d : Array Int) (r : List Cell) (k0 k : Nat) : Int := wOf ((inOrder l d).take k) r - wOf ((inOrder l d).take k0) r
theorem seg_zero (l : List Item) (d : Array Int) (r : List Cell) (k0 : Nat) : segW l d r k0 k0 = 0 := by unfold segW; omega
theorem inOrder_get {l : List Item} {d : Array Int} {k : Nat} (h : k < d.size) : (inOrder l d)[k]? = some (itemAt l d[k]!) := by
  simp [inOrder, h]
theorem take_wOf {l : List Item} {d : Array Int} {k : Nat} (h : k < d.size) (r : List Cell) : wOf ((inOrder l d).take (k + 1)) r = wOf ((inOrder l d).take k) r + if (itemAt l d[k]!).row = r then (itemAt l d[k]!).w else 0 := by
  rw [List.take_add_one, inOrder_get h, wOf_append]
  simp [wOf]
theorem seg_next {l : List Item} {d : Array Int} {r : List Cell} {k0 k : Nat} (h : k < d.size) (hr : (itemAt l d[k]!).row = r) : segW l d r k0 (k + 1) = segW l d r k0 k + (itemAt l d[k]!).w := by
  unfold segW
  rw [take_wOf h, if_pos hr]
  omega
theorem inOrder_fit {l : List Item} {d : Array Int} (hf : ∀ x ∈ l, fit x.w) (hp : (inOrder l d).Perm l) : ∀ x ∈ inOrder l d, fit x.w := fun x hx => hf x (hp.mem_iff.1 hx)
theorem seg_bd {l : List Item} {d : Array Int} {r : List Cell} {k0 k : Nat} (hn : l.length ≤ 1048576) (hf : ∀ x ∈ l, fit x.w) (hp : (inOrder l d).Perm l) : -(2097152 * 9223372036854775808 : Int) ≤ segW l d r k0 k ∧ segW l d r k0 k ≤ 2097152 * 9223372036854775808 := by
  have hf' := inOrder_fit hf hp
  have h1 := wOf_bd (l := (inOrder l d).take k) (r := r) (fun x hx => hf' x (List.mem_of_mem_take hx))
  have h2 := wOf_bd (l := (inOrder l d).take k0) (r := r) (fun x hx => hf' x (List.mem_of_mem_take hx))
  have hl := hp.length_eq
  have l1 : ((inOrder l d).take k).length ≤ 1048576 := by simp; omega
  have l2 : ((inOrder l d).take k0).length ≤ 1048576 := by simp; omega
  unfold segW
  omega

theorem SlT.set2 {T T' lo n p i j : Nat} {w : World} {v u u' : Value} {xs : List Value} {cs : Array Value} {f : Nat × Nat} (h : SlT T lo w v n xs) (hp : w.heap[p]? = some (.cells cs T' f)) (hne : T' ≠ T) :
    SlT T lo ((w.setCell ⟨p, i, none⟩ u).setCell ⟨p, j, none⟩ u') v n xs :=
  h.grown (row := some p) (grown_set (grown_set (World.grownBy.refl w _) _ _) _ _) (fun g hg => by injection hg with hg; subst hg; exact ⟨_, _, _, hp, hne⟩)
def pAddr (g k m : Nat) : Option Addr := if m = 0 then some ⟨g, k - 1, none⟩ else some ⟨g, k, none⟩
theorem pAddr_pos {g k m : Nat} (h : 0 < m) : pAddr g k m = some ⟨g, k, none⟩ := if_neg (by omega)
theorem pAddr_next {g k m : Nat} (h : 0 < m) : (if m = 1 then some ⟨g, k, none⟩ else some ⟨g, k + 1, none⟩ : Option Addr) = pAddr g (k + 1) (m - 1) := by
  unfold pAddr
  by_cases e : m = 1
  · rw [if_pos e, if_pos (by omega)]; rfl
  · rw [if_neg e, if_neg (by omega)]
structure RunSt (w0 : World) (q0 g k m : Nat) (s : Int) (w : World) : Prop where
  grown : w0.grownBy w (some q0)
  place : w.heap[q0]? = some (.cells #[.slice (pAddr g k m) m m] 67 (0, 0))
  sum : w.heap[w0.heap.size + 1]? = some (.cells #[.int .u64 (wA s), .int .u64 (wB s), .int .u64 (wC s)] 84 (0, 0))
  res : w.heap[w0.heap.size]? = some (.cells #[.slice none 0 0, .int .i64 0] 60 (0, 0))
theorem RunSt.old {w0 w w' : World} {q0 g k m : Nat} {s : Int} (h : RunSt w0 q0 g k m s w) (ho : Old w w') : RunSt w0 q0 g k m s w' :=
  ⟨grown_old h.grown ho, ho.heap h.place, ho.heap h.sum, ho.heap h.res⟩
theorem RunSt.next {w0 w : World} {q0 g k m : Nat} {s : Int} (h : RunSt w0 q0 g k m s w) (hq : q0 < w0.heap.size) (hm : 0 < m) (s' : Int) : RunSt w0 q0 g (k + 1) (m - 1) s'
    ((((w.setCell ⟨w0.heap.size + 1, 0, none⟩ (.int .u64 (wA s'))).setCell ⟨w0.heap.size + 1, 1, none⟩ (.int .u64 (wB s'))).setCell ⟨w0.heap.size + 1, 2, none⟩ (.int .u64 (wC s'))).setCell ⟨q0, 0, none⟩ (.slice (if m = 1 then some ⟨g, k, none⟩ else some ⟨g, k + 1, none⟩) (m - 1) (m - 1))) where
  grown := grown_set (grown_setNew (grown_setNew (grown_setNew h.grown (Nat.le_succ _) _) (Nat.le_succ _) _) (Nat.le_succ _) _) _ _
  place := by rw [pAddr_next hm]; simp [World.setCell, Array.getElem?_modify, h.place, show ¬ w0.heap.size + 1 = q0 by omega]
  sum := by simp [World.setCell, Array.getElem?_modify, h.sum, show ¬ q0 = w0.heap.size + 1 by omega]
  res := by simp [World.setCell, Array.getElem?_modify, h.res, show ¬ q0 = w0.heap.size by omega]
def lenAt (w : World) (q : Nat) : Nat :=
  match w.cell? ⟨q, 0, none⟩ with
  | some (.slice _ n _) => n
  | _ => 0
theorem RunSt.len {w0 w : World} {q0 g k m : Nat} {s : Int} (h : RunSt w0 q0 g k m s w) : lenAt w q0 = m := by
  unfold lenAt
  rw [cell_of_heap h.place]
  rfl

set_option maxRecDepth 100000 in
set_option maxHeartbeats 2000000 in
theorem norm_fn (q0 q1 q2 g k0 m0 : Nat) (v : Value) (l : List Item) (d : Array Int) (wb w0 : World) (hb : Old wb w0) (hi : ItemsIs wb v l) (hd : IntsAt wb g d) (h1 : wb.cell? ⟨q1, 0, none⟩ = some v) (h2 : wb.cell? ⟨q2, 0, none⟩ = some v)
    (hq : wb.heap.size ≤ q0) (hq' : q0 < w0.heap.size) (hp : w0.heap[q0]? = some (.cells #[.slice (some ⟨g, k0, none⟩) m0 m0] 67 (0, 0))) (hk : k0 + m0 = l.length) (hm : 0 < m0) (hP : Places l d)
    (hn : l.length ≤ 1048576) (hs : Short l) (hf : ∀ x ∈ l, fit x.w) :
    Calls Tryz.prog 51 #[.pointer (some ⟨q0, 0, none⟩), .pointer (some ⟨q1, 0, none⟩), .pointer (some ⟨q2, 0, none⟩)] w0 fun e w' => ∃ k m rv, k0 < k ∧ k + m = l.length ∧
      (∀ i, k0 ≤ i → i < k → (itemAt l d[i]!).row = (itemAt l d[k0]!).row) ∧ (0 < m → (itemAt l d[k]!).row ≠ (itemAt l d[k0]!).row) ∧
      e = .returned (.tuple #[.agg #[rv, .int .i64 (intOr (segW l d (itemAt l d[k0]!).row k0 k))], .int .i64 (intErr (segW l d (itemAt l d[k0]!).row k0 k))]) ∧
      SlT 65 w0.heap.size w' rv (itemAt l d[k0]!).row.length (rowVals (itemAt l d[k0]!).row) ∧ w0.grownBy w' (some q0) ∧ w'.heap[q0]? = some (.cells #[.slice (pAddr g k m) m m] 67 (0, 0)) := by
  have HI := hide hi
  obtain ⟨A, ca, us, rfl, hla, hma, hul, hur, ha⟩ := hi.open_
  unfold maxLen at hma
  have HUR := hide hur
  obtain ⟨f, hff⟩ := Int.eq_ofNat_of_zero_le (hP.range k0 (by omega)).1
  have hfl : f < l.length := by have := (hP.range k0 (by omega)).2; omega
  have hfu : f < us.length := by omega
  have hif := itemAt_eq (l := l) hff hfl
  have HIF := hide hif
  have hds : k0 < d.size := by rw [hP.size]; omega
  obtain ⟨bi, oi, rfl, hci⟩ := ha.resolve_left (by omega)
  have x1 : w0.cell? ⟨q1, 0, none⟩ = some (.slice (some ⟨bi, oi, none⟩) l.length ca) := hb.cell h1
  have x0 : w0.cell? ⟨q0, 0, none⟩ = some (.slice (some ⟨g, k0, none⟩) m0 m0) := by rw [cell_of_heap hp]; rfl
  have y0 : w0.cell? ⟨g, k0, none⟩ = some (.int .i64 f) := by rw [← hff]; exact hb.cell (hd.cell hds)
  have z1 : q1 < w0.heap.size := World.block_lt_of_cell? w0 _ x1
  have z2 : g < w0.heap.size := World.block_lt_of_cell? w0 _ y0
  have xs := hci f hfl hfu
  obtain ⟨Ar, cr, hrr, _⟩ := hur f hfl hfu
  have HB := hide hb
  have HD := hide hd
  have H1 := hide h1
  have H2 := hide h2
  have HP := hide hP
  have HPL := hide hp
  have HCI := hide hci
  have HF := hide hf
  have HS := hide hs
  have HX := hide (show wb.cell? ⟨bi, oi + f * 2, none⟩ = some (.slice Ar l[f].row.length cr) by rw [← hrr]; exact xs.1)
  have HRR := hide (show RowIs wb (.slice Ar l[f].row.length cr) l[f].row by rw [← hrr]; exact hur f hfl hfu)
  have HST := hide (show ∀ w', RunSt w0 q0 g k0 m0 0 w' → RunSt w0 q0 g k0 m0 (segW l d (itemAt l d[k0]!).row k0 k0) w' by intro w' h; rw [seg_zero]; exact h)
  clear hi hur ha hb hd h1 h2 hP hp hci hff hif hf hs xs hrr
  go_enter Tryz.func51, Tryz.ntmps51
  go_wp2_with fail
  go_loopw [] (fun wr => ∃ k m : Nat, k + m = l.length ∧ k0 ≤ k ∧ Hid (m = m0 ∨ k0 < k) ∧ Hid (∀ i, k0 ≤ i → i < k → (itemAt l d[i]!).row = (itemAt l d[k0]!).row) ∧ Hid (RunSt w0 q0 g k m (segW l d (itemAt l d[k0]!).row k0 k) wr)) (fun wr => lenAt wr q0)
  case atStart => 
    refine ⟨k0, m0, hk, Nat.le_refl _, hide (.inl rfl), hide (fun i h1 h2 => by omega), HST.out _ ⟨?_, ?_, ?_, ?_⟩⟩
    · exact grown_old (World.grownBy.refl w0 _) (((Old.refl w0).alloc _).alloc _)
    · rw [pAddr_pos hm]; exact HPL.out |> (((Old.refl w0).alloc _).alloc _).heap
    · have e : (w0.heap.push (Obj.cells #[.slice none 0 0, .int .i64 0] 60 (0, 0))).size = w0.heap.size + 1 := by simp
      rw [← e]
      exact Array.getElem?_push_size
    · exact Old.heap ((Old.refl _).alloc _) (Array.getElem?_push_size)
  case round =>
    obtain ⟨k, m, hkm, hk0, HM, HE, HR⟩ := hrel
    have HOW := hide (grown_new HB.out HR.out.grown hq)
    have pp : ∀ p : Later wr, p.world.cell? ⟨q0, 0, none⟩ = some (.slice (pAddr g k m) m m) := fun p => by rw [cell_of_heap (HR.out.old p.old).place]; rfl
    by_cases hm0 : 0 < m
    · have hg : decide (0 < m) = true := decide_eq_true hm0
      have HA := hide (pAddr_pos (g := g) (k := k) hm0)
      have p0 : ∀ p : Later wr, p.world.cell? ⟨q0, 0, none⟩ = some (.slice (some ⟨g, k, none⟩) m m) := fun p => by rw [← HA.out]; exact pp p
      clear pp
      have hkl : k < l.length := by omega
      obtain ⟨j, hjj⟩ := Int.eq_ofNat_of_zero_le (HP.out.range k hkl).1
      have hjl : j < l.length := by have := (HP.out.range k hkl).2; omega
      have HIJ := hide (itemAt_eq (l := l) hjj hjl)
      have p1 : ∀ p : Later wr, p.world.cell? ⟨q1, 0, none⟩ = some (.slice (some ⟨bi, oi, none⟩) l.length ca) := fun p => (Old.trans HOW.out p.old).cell H1.out
      have p2 : ∀ p : Later wr, p.world.cell? ⟨g, k, none⟩ = some (.int .i64 j) := fun p => by rw [← hjj]; exact (Old.trans HOW.out p.old).cell (HD.out.cell (by rw [HP.out.size]; exact hkl))
      have HC := hide (show ∀ p : Later wr, Calls Tryz.prog 52 #[.slice (some ⟨bi, oi, none⟩) l.length ca, .int .i64 f, .int .i64 j] p.world fun e w' => e = .returned (.int .i64 (rowCmp l[f].row l[j].row)) ∧ Old p.world w' from fun p =>
        items_order _ _ _ _ _ (HI.out.old (Old.trans HOW.out p.old)) hfl hjl)
      have hjd := hide hjj
      clear hjj
      by_cases hc : rowCmp l[f].row l[j].row = 0
      · have hc' : (rowCmp l[f].row l[j].row == 0) = true := by simpa using hc
        have HCC := hide (rowCmp_zero.1 hc)
        clear hc
        go_wp2_with fail
        refine region_later (by kernel_rfl) (by kernel_rfl) ?_
        repeat (go_big_quiet_step ((go_at_call 52; exact Later.call (HC.out _))))
        refine wpQuiet_nil ?_
        rintro wq ⟨⟨_, hwq⟩, rfl⟩
        clear p0 p1 p2
        have HR2 := hide (HR.out.old hwq)
        have HOL := hide (Old.trans HOW.out hwq)
        obtain ⟨S, hS⟩ : ∃ S, Hid (segW l d (itemAt l d[k0]!).row k0 k = S) := ⟨_, rfl⟩
        rw [hS.out] at HR2
        have hju : j < us.length := by omega
        have hfj := HF.out l[j] (List.getElem_mem hjl)
        have CO := hide (show ∀ p : Later wq, Calls Tryz.prog 54 #[.int .i64 l[j].w] p.world fun e w' => e = .returned (wide l[j].w) ∧ Old p.world w' from fun p => (wide_Of _ _ hfj).mono fun _ _ h => ⟨h.1, h.2.old⟩)
        have CA := hide (show ∀ p : Later wq, Calls Tryz.prog 53 #[wide S, wide l[j].w] p.world fun e w' => e = .returned (wide (S + l[j].w)) ∧ Old p.world w' from fun p => (wide_Add _ _ _).mono fun _ _ h => ⟨h.1, h.2.old⟩)
        have p0 : ∀ p : Later wq, p.world.cell? ⟨q0, 0, none⟩ = some (.slice (some ⟨g, k, none⟩) m m) := fun p => by rw [← HA.out, cell_of_heap (HR2.out.old p.old).place]; rfl
        have p1 : ∀ p : Later wq, p.world.cell? ⟨q2, 0, none⟩ = some (.slice (some ⟨bi, oi, none⟩) l.length ca) := fun p => (Old.trans HOL.out p.old).cell H2.out
        have p2 : ∀ p : Later wq, p.world.cell? ⟨g, k, none⟩ = some (.int .i64 j) := fun p => by rw [← hjd.out]; exact (Old.trans HOL.out p.old).cell (HD.out.cell (by rw [HP.out.size]; exact hkl))
        have p3 : ∀ p : Later wq, p.world.cell? ⟨bi, oi + j * 2 + 1, none⟩ = some (.int .i64 l[j].w) := fun p => (Old.trans HOL.out p.old).cell (HCI.out j hjl hju).2
        have s0 : ∀ p : Later wq, p.world.cell? ⟨w0.heap.size + 1, 0, none⟩ = some (.int .u64 (wA S)) := fun p => by rw [cell_of_heap (HR2.out.old p.old).sum]; rfl
        have s1 : ∀ p : Later wq, p.world.cell? ⟨w0.heap.size + 1, 1, none⟩ = some (.int .u64 (wB S)) := fun p => by rw [cell_of_heap (HR2.out.old p.old).sum]; rfl
        have s2 : ∀ p : Later wq, p.world.cell? ⟨w0.heap.size + 1, 2, none⟩ = some (.int .u64 (wC S)) := fun p => by rw [cell_of_heap (HR2.out.old p.old).sum]; rfl
        go_wp2_with fail
        refine region_later_tail 10 (by kernel_rfl) (by kernel_rfl) ?_
        simp only [List.take_succ_cons, List.take_zero, List.drop_succ_cons, List.drop_zero]
        repeat (go_big_quiet_step (first | (go_at_call 54; exact Later.call (CO.out _)) | (go_at_call 53; exact Later.call (CA.out _))))
        refine wpQuiet_nil ?_
        rintro wz ⟨⟨_, hwz⟩, rfl⟩
        clear p0 p1 p2 p3 s0 s1 s2
        have HR3 := hide (HR2.out.old hwz)
        have s0 : wz.cell? ⟨w0.heap.size + 1, 0, none⟩ = some (.int .u64 (wA S)) := by rw [cell_of_heap HR3.out.sum]; rfl
        have s1 : wz.cell? ⟨w0.heap.size + 1, 1, none⟩ = some (.int .u64 (wB S)) := by rw [cell_of_heap HR3.out.sum]; rfl
        have s2 : wz.cell? ⟨w0.heap.size + 1, 2, none⟩ = some (.int .u64 (wC S)) := by rw [cell_of_heap HR3.out.sum]; rfl
        have f0 : ∀ i, wz.frozen? ⟨w0.heap.size + 1, i, none⟩ = false := fun i => free_of_heap HR3.out.sum
        have p0 : wz.cell? ⟨q0, 0, none⟩ = some (.slice (some ⟨g, k, none⟩) m m) := by rw [← HA.out, cell_of_heap HR3.out.place]; rfl
        have f1 : wz.frozen? ⟨q0, 0, none⟩ = false := free_of_heap HR3.out.place
        have hne : ¬ q0 = w0.heap.size + 1 := by omega
        have hne2 : ¬ w0.heap.size + 1 = q0 := by omega
        have h1m : (1 : Int) ≤ m := by omega
        go_wp2_with fail
        go_roundw
        case rel =>
          refine ⟨k + 1, m - 1, by omega, by omega, hide (.inr (by omega)), hide (fun i h1 h2 => ?_), hide ?_⟩
          · rcases Nat.lt_or_ge i k with h | h
            · exact HE.out i h1 h
            · have : i = k := by omega
              subst this
              rw [HIJ.out, HIF.out, HCC.out]
          · rw [seg_next (by rw [HP.out.size]; exact hkl) (by rw [HIJ.out, HIF.out, HCC.out]), hS.out, HIJ.out]
            exact HR3.out.next hq' hm0 _
        case measure =>
          have e1 := HR.out.len
          have e2 := (HR3.out.next hq' hm0 (S + l[j].w)).len
          rw [e1]
          exact Nat.lt_of_le_of_lt (Nat.le_of_eq e2) (by omega)
      · have hc' : (rowCmp l[f].row l[j].row == 0) = false := by simpa using hc
        have HNN := hide (show 0 < m → (itemAt l d[k]!).row ≠ (itemAt l d[k0]!).row from fun _ e => hc (rowCmp_zero.2 (by rw [← HIJ.out, ← HIF.out, e])))
        have hkk : k0 < k := by
          rcases Nat.lt_or_ge k0 k with h | h
          · exact h
          · have : k = k0 := by omega
            subst this
            exact absurd (rowCmp_zero.2 (by rw [← HIJ.out, ← HIF.out])) hc
        clear hc
        go_wp2_with fail
        refine region_later (by kernel_rfl) (by kernel_rfl) ?_
        repeat (go_big_quiet_step ((go_at_call 52; exact Later.call (HC.out _))))
        refine wpQuiet_nil ?_
        rintro wq ⟨⟨_, hwq⟩, rfl⟩
        clear p0 p1 p2
        have HR2 := hide (HR.out.old hwq)
        have HOL := hide (grown_new HB.out HR2.out.grown hq)
        obtain ⟨S, hS⟩ : ∃ S, Hid (segW l d (itemAt l d[k0]!).row k0 k = S) := ⟨_, rfl⟩
        have hbS := seg_bd (l := l) (d := d) (r := (itemAt l d[k0]!).row) (k0 := k0) (k := k) hn HF.out HP.out.perm
        rw [hS.out] at HR2 hbS
        have CI := hide (fun w => wide_Int S w ⟨by omega, by omega⟩)
        have s0 : wq.cell? ⟨w0.heap.size + 1, 0, none⟩ = some (.int .u64 (wA S)) := by rw [cell_of_heap HR2.out.sum]; rfl
        have s1 : wq.cell? ⟨w0.heap.size + 1, 1, none⟩ = some (.int .u64 (wB S)) := by rw [cell_of_heap HR2.out.sum]; rfl
        have s2 : wq.cell? ⟨w0.heap.size + 1, 2, none⟩ = some (.int .u64 (wC S)) := by rw [cell_of_heap HR2.out.sum]; rfl
        clear hbS
        go_wp2_with fail
        refine (CI.out _).mono ?_
        rintro e w2 ⟨rfl, g2⟩
        clear s0 s1 s2
        have HR3 := hide (HR2.out.old g2.old)
        have HOL2 := hide (Old.trans HOL.out g2.old)
        have t2 := HOL2.out.cell H2.out
        have t3 := HOL2.out.cell HX.out
        go_wp2_with fail
        refine (row_Copy _ _ _ (HRR.out.old HOL2.out) (HS.out f hfl)).mono ?_
        rintro e w3 ⟨rv, rfl, h3, h4⟩
        obtain ⟨A3, c3, rfl, _⟩ := id h3
        clear t2 t3
        have HR4 := hide (HR3.out.old h4)
        have H3 := hide (h3.mono (Nat.le_trans HR2.out.grown.size g2.old.size))
        clear h3
        have c0 : w3.cell? ⟨w0.heap.size, 0, none⟩ = some (.slice none 0 0) := by rw [cell_of_heap HR4.out.res]; rfl
        have c1 : w3.cell? ⟨w0.heap.size, 1, none⟩ = some (.int .i64 0) := by rw [cell_of_heap HR4.out.res]; rfl
        have f0 : w3.frozen? ⟨w0.heap.size, 0, none⟩ = false := free_of_heap HR4.out.res
        have f1 : w3.frozen? ⟨w0.heap.size, 1, none⟩ = false := free_of_heap HR4.out.res
        go_wp2_with fail
        refine bodyPost_ret (v := .tuple #[.agg #[.slice A3 l[f].row.length c3, .int .i64 (intOr S)], .int .i64 (intErr S)]) (by simp [results, Tryz.results51, go_sem, c0, c1]) rfl ?_
        refine ⟨k, m, .slice A3 l[f].row.length c3, hkk, hkm, HE.out, HNN.out, by rw [hS.out], ?_, ?_, ?_⟩
        · rw [HIF.out]
          exact SlT.set2 H3.out HR4.out.res (by decide)
        · exact grown_setNew (grown_setNew HR4.out.grown (Nat.le_refl _) _) (Nat.le_refl _) _
        · simp [World.setCell, Array.getElem?_modify, HR4.out.place, show ¬ w0.heap.size = q0 by omega]
    · have hg : decide (0 < m) = false := decide_eq_false hm0
      have HNN := hide (show 0 < m → (itemAt l d[k]!).row ≠ (itemAt l d[k0]!).row from fun h => absurd h hm0)
      have hkk : k0 < k := by have := HM.out; omega
      go_wp2_with fail
      refine region_later (by kernel_rfl) (by kernel_rfl) ?_
      repeat (go_big_quiet_step (fail))
      refine wpQuiet_nil ?_
      rintro wq ⟨⟨_, hwq⟩, rfl⟩
      clear pp
      have HR2 := hide (HR.out.old hwq)
      have HOL := hide (grown_new HB.out HR2.out.grown hq)
      obtain ⟨S, hS⟩ : ∃ S, Hid (segW l d (itemAt l d[k0]!).row k0 k = S) := ⟨_, rfl⟩
      have hbS := seg_bd (l := l) (d := d) (r := (itemAt l d[k0]!).row) (k0 := k0) (k := k) hn HF.out HP.out.perm
      rw [hS.out] at HR2 hbS
      have CI := hide (fun w => wide_Int S w ⟨by omega, by omega⟩)
      have s0 : wq.cell? ⟨w0.heap.size + 1, 0, none⟩ = some (.int .u64 (wA S)) := by rw [cell_of_heap HR2.out.sum]; rfl
      have s1 : wq.cell? ⟨w0.heap.size + 1, 1, none⟩ = some (.int .u64 (wB S)) := by rw [cell_of_heap HR2.out.sum]; rfl
      have s2 : wq.cell? ⟨w0.heap.size + 1, 2, none⟩ = some (.int .u64 (wC S)) := by rw [cell_of_heap HR2.out.sum]; rfl
      clear hbS
      go_wp2_with fail
      refine (CI.out _).mono ?_
      rintro e w2 ⟨rfl, g2⟩
      clear s0 s1 s2
      have HR3 := hide (HR2.out.old g2.old)
      have HOL2 := hide (Old.trans HOL.out g2.old)
      have t2 := HOL2.out.cell H2.out
      have t3 := HOL2.out.cell HX.out
      go_wp2_with fail
      refine (row_Copy _ _ _ (HRR.out.old HOL2.out) (HS.out f hfl)).mono ?_
      rintro e w3 ⟨rv, rfl, h3, h4⟩
      obtain ⟨A3, c3, rfl, _⟩ := id h3
      clear t2 t3
      have HR4 := hide (HR3.out.old h4)
      have H3 := hide (h3.mono (Nat.le_trans HR2.out.grown.size g2.old.size))
      clear h3
      have c0 : w3.cell? ⟨w0.heap.size, 0, none⟩ = some (.slice none 0 0) := by rw [cell_of_heap HR4.out.res]; rfl
      have c1 : w3.cell? ⟨w0.heap.size, 1, none⟩ = some (.int .i64 0) := by rw [cell_of_heap HR4.out.res]; rfl
      have f0 : w3.frozen? ⟨w0.heap.size, 0, none⟩ = false := free_of_heap HR4.out.res
      have f1 : w3.frozen? ⟨w0.heap.size, 1, none⟩ = false := free_of_heap HR4.out.res
      go_wp2_with fail
      refine bodyPost_ret (v := .tuple #[.agg #[.slice A3 l[f].row.length c3, .int .i64 (intOr S)], .int .i64 (intErr S)]) (by simp [results, Tryz.results51, go_sem, c0, c1]) rfl ?_
      refine ⟨k, m, .slice A3 l[f].row.length c3, hkk, hkm, HE.out, HNN.out, by rw [hS.out], ?_, ?_, ?_⟩
      · rw [HIF.out]
        exact SlT.set2 H3.out HR4.out.res (by decide)
      · exact grown_setNew (grown_setNew HR4.out.grown (Nat.le_refl _) _) (Nat.le_refl _) _
      · simp [World.setCell, Array.getElem?_modify, HR4.out.place, show ¬ w0.heap.size = q0 by omega]
end Go.Proofs.YtmfbblcipakaiaaGreatDoor

