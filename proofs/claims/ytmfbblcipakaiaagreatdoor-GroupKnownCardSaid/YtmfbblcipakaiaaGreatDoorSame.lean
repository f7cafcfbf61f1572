/- The walks of zset.Same, and of the document's Spoil, Bring and Get. -/
import Derived.Test.YtmfbblcipakaiaaGreatDoorScale
namespace Go.Proofs.YtmfbblcipakaiaaGreatDoor
open Go.RowKit

set_option maxRecDepth 100000 in
set_option maxHeartbeats 1000000 in
theorem equalFunc (va vb : Value) (a b : List Item) (w : World) (ha : ItemsIs w va a) (hb : ItemsIs w vb b) :
    Calls Tryz.prog 56 #[va, vb, .func (.func 57) #[] #[]] w fun e w' => e = .returned (.bool (sameItems a b)) ∧ Old w w' := by
  obtain ⟨A, ca, us, rfl, hla, hma, hul, hur, ha⟩ := ha.open_
  obtain ⟨B, cb, vs, rfl, hlb, hmb, hvl, hvr, hb⟩ := hb.open_
  unfold maxLen at hma hmb
  have HUR := Lib.hid hur
  have HVR := Lib.hid hvr
  clear hur hvr
  go_enter Tryz.func56, Tryz.ntmps56
  by_cases hl : a.length = b.length
  · have hl' : ((a.length : Int) != (b.length : Int)) = false := by simp [hl]
    have HL := Lib.hid hl
    have hl1 : a.length ≤ b.length := by omega
    have hl2 : b.length ≤ a.length := by omega
    clear hl
    go_wp2_with fail
    go_loopw [17] (fun i wr => ∃ k : Nat, i = .int .i64 k ∧ k ≤ a.length ∧ Hid (∀ j : Nat, j < k → a[j]? = b[j]?) ∧ Old w wr) (fun i _ => a.length - (intOf i).toNat)
    case atStart => exact ⟨0, rfl, by omega, Lib.hid (by intro j hj; omega), Old.refl _⟩
    case round =>
      obtain ⟨k, rfl, hk, HQ, hbl⟩ := hrel
      by_cases hlt : k < a.length
      · have hlt' : k < b.length := by omega
        have hku : k < us.length := by omega
        have hkv : k < vs.length := by omega
        obtain ⟨b1, o1, rfl, hc1⟩ := ha.resolve_left (by omega)
        obtain ⟨b2, o2, rfl, hc2⟩ := hb.resolve_left (by omega)
        obtain ⟨x0, x1⟩ := hc1 k hlt hku
        obtain ⟨y0, y1⟩ := hc2 k hlt' hkv
        obtain ⟨Ar, cr, hr, _⟩ := HUR.out k hlt hku
        obtain ⟨As, cs, hs, _⟩ := HVR.out k hlt' hkv
        have hR := HUR.out k hlt hku
        have hS := HVR.out k hlt' hkv
        rw [hr] at x0 hR
        rw [hs] at y0 hS
        have hx0 := hbl.cell x0
        have hx1 := hbl.cell x1
        have hy0 := hbl.cell y0
        have hy1 := hbl.cell y1
        have bb : b2 < wr.heap.size := World.block_lt_of_cell? wr _ hy0
        have HC := hide (show ∀ c, (a[k].w == b[k].w) = c → ∀ w', Old wr w' → Calls Tryz.prog 57 #[.agg #[.slice Ar a[k].row.length cr, .int .i64 a[k].w], .agg #[.slice As b[k].row.length cs, .int .i64 b[k].w]] w' fun e w2 => e = .returned (.bool (c && sameRow a[k].row b[k].row)) ∧ Old w w2 from fun c hc w' h =>
          (same_fn _ _ _ _ _ _ w' (hR.old (Old.trans hbl h)) (hS.old (Old.trans hbl h)) c hc).mono fun _ _ q => ⟨q.1, Old.trans (Old.trans hbl h) q.2⟩)
        clear ha hb hc1 hc2 x0 x1 y0 y1 hr hs hR hS
        by_cases hw : a[k].w = b[k].w
        · have HW := Lib.hid hw
          have HC2 := hide (HC.out true (by simpa using hw))
          clear HC hw
          go_wp2_with fail
          refine (HC2.out _ (((Old.refl wr).alloc _).alloc _)).mono ?_
          rintro e w1 ⟨rfl, h1⟩
          clear hx0 hx1 hy0 hy1
          cases hc : sameRow a[k].row b[k].row
          · have HS := Lib.hid hc
            clear hc
            go_wp2_with fail
            go_ret
            exact ⟨ret_bool (sameItems_row hlt hlt' HS.out).symm, h1⟩
          · have HS := Lib.hid hc
            clear hc
            go_wp2_with fail
            go_roundw
            case rel => exact ⟨k + 1, by go_num, by omega, Lib.hid (sameItems_next hlt hlt' HQ.out HW.out HS.out), h1⟩
            case measure => simp [intOf]; omega
        · have HW := Lib.hid hw
          have HC2 := hide (HC.out false (by simpa using hw))
          clear HC hw
          go_wp2_with fail
          refine (HC2.out _ (((Old.refl wr).alloc _).alloc _)).mono ?_
          rintro e w1 ⟨rfl, h1⟩
          clear hx0 hx1 hy0 hy1
          go_wp2_with fail
          go_ret
          exact ⟨ret_bool (sameItems_w hlt hlt' HW.out).symm, h1⟩
      · go_wp2_with fail
        go_ret
        exact ⟨ret_bool (sameItems_end HL.out (fun j hj => HQ.out j (by omega))).symm, hbl⟩
  · have hl' : ((a.length : Int) != (b.length : Int)) = true := by simp; omega
    go_wp2_with fail
    go_ret
    exact ⟨ret_bool (sameItems_len hl).symm, Old.refl _⟩
set_option maxRecDepth 100000 in
theorem zset_Same (va vb : Value) (a b : List Item) (w : World) (ha : ItemsIs w va a) (hb : ItemsIs w vb b) :
    Calls Tryz.prog 24 #[va, vb] w fun e w' => e = .returned (.bool (sameItems a b)) ∧ Old w w' := by
  have C := hide (equalFunc va vb a b w ha hb)
  clear ha hb
  go_enter Tryz.func24, Tryz.ntmps24
  go_wp2_with fail
  refine C.out.mono ?_
  rintro e w1 ⟨rfl, h1⟩
  go_wp2_with fail
  go_ret
  exact ⟨rfl, h1⟩

set_option maxRecDepth 100000 in
theorem bring_run (i : Int) (n : Nat) (w : World) (hn : 0 < n) (hn' : n ≤ 1048576) :
    Calls Tryz.prog 22 #[.int .i64 i, .int .i64 n] w fun e w' => (∃ k : Nat, k < n ∧ e = .returned (.int .i64 k)) ∧ w = w' := by
  have h1 := Int.tmod_lt_of_pos i (show (0 : Int) < n by omega)
  have h2 := Int.neg_tmod i n
  have h3 : -(n : Int) < i.tmod n := by
    have := Int.tmod_lt_of_pos (-i) (show (0 : Int) < n by omega)
    rw [h2] at this
    omega
  clear h2
  go_enter Tryz.func22, Tryz.ntmps22
  go_wp2_with fail
  · go_ret
    exact ⟨⟨(i.tmod n + n).toNat, by omega, ret_int (by omega)⟩, rfl⟩
  · go_ret
    exact ⟨⟨(i.tmod n).toNat, by omega, ret_int (by omega)⟩, rfl⟩

theorem getW_first {l : List Item} {r : List Cell} {k : Nat} (hk : k < l.length) (hn : ∀ j : Nat, (hj : j < k) → (hj' : j < l.length) → sameRow l[j].row r = false) (h : sameRow l[k].row r = true) : getW l r = l[k].w := by
  have : l.find? (fun x => sameRow x.row r) = some l[k] := by
    rw [List.find?_eq_some_iff_getElem]
    exact ⟨h, k, hk, rfl, fun j hj => by simpa using hn j hj (by omega)⟩
  simp [getW, this]
theorem getW_last {l : List Item} {r : List Cell} (hn : ∀ j : Nat, (hj' : j < l.length) → sameRow l[j].row r = false) : getW l r = 0 := getW_none (by rw [idxRow_none hn]; omega)

/-- worlds in which what lies from block lo on may have been spoilt, but no slice value -/
structure Spo (lo : Nat) (w wr : World) : Prop where
  low : Below lo w wr
  cells : ∀ (b : Nat) (cs : Array Value) (T : TypeId) (f : Nat × Nat), w.heap[b]? = some (.cells cs T f) → ∃ cs' : Array Value, wr.heap[b]? = some (.cells cs' T f) ∧ cs'.size = cs.size ∧ ∀ (j : Nat) (A : Option Addr) (n c : Nat), cs[j]? = some (.slice A n c) → cs'[j]? = some (.slice A n c)
theorem Spo.refl (lo : Nat) (w : World) : Spo lo w w := ⟨Below.refl _ _, fun _ cs _ _ h => ⟨cs, h, rfl, fun _ _ _ _ h => h⟩⟩
theorem Spo.set {lo : Nat} {w wr : World} (h : Spo lo w wr) {p i : Nat} {cs : Array Value} {T : TypeId} {f : Nat × Nat} (hb : w.heap[p]? = some (.cells cs T f)) (hp : lo ≤ p) (hi : ∀ (A : Option Addr) (n c : Nat), cs[i]? ≠ some (.slice A n c)) (u : Value) : Spo lo w (wr.setCell ⟨p, i, none⟩ u) where
  low := h.low.setCell hp u
  cells := by
    intro b cs1 T1 f1 hb1
    obtain ⟨cs', h1, h2, h3⟩ := h.cells b cs1 T1 f1 hb1
    by_cases e : p = b
    · subst e
      rw [hb] at hb1
      injection hb1 with hb1
      injection hb1 with q1 q2 q3
      subst q1 q2 q3
      refine ⟨cs'.setIfInBounds i u, by simp [World.setCell, Array.getElem?_modify, h1], by simpa using h2, fun j A n c hj => ?_⟩
      have : i ≠ j := by rintro rfl; exact hi A n c hj
      rw [Array.getElem?_setIfInBounds_ne this]
      exact h3 j A n c hj
    · exact ⟨cs', by simp [World.setCell, Array.getElem?_modify, h1, e], h2, h3⟩
theorem Spo.slice {lo : Nat} {w wr : World} (h : Spo lo w wr) {p i : Nat} {cs : Array Value} {T : TypeId} {f : Nat × Nat} (hb : w.heap[p]? = some (.cells cs T f)) {A : Option Addr} {n c : Nat} (hi : cs[i]? = some (.slice A n c)) : wr.cell? ⟨p, i, none⟩ = some (.slice A n c) := by
  obtain ⟨cs', h1, h2, h3⟩ := h.cells p cs T f hb
  rw [cell_of_heap h1]
  exact h3 _ _ _ _ hi
theorem Spo.some {lo : Nat} {w wr : World} (h : Spo lo w wr) {p i : Nat} {cs : Array Value} {T : TypeId} (hb : w.heap[p]? = some (.cells cs T (0, 0))) {u : Value} (hi : cs[i]? = some u) : (∃ x, wr.cell? ⟨p, i, none⟩ = some x) ∧ wr.frozen? ⟨p, i, none⟩ = false := by
  obtain ⟨cs', h1, h2, h3⟩ := h.cells p cs T _ hb
  have : i < cs.size := (Array.getElem?_eq_some_iff.1 hi).1
  exact ⟨⟨cs'[i], by rw [cell_of_heap h1]; exact Array.getElem?_eq_getElem (by omega)⟩, free_of_heap h1⟩

set_option maxRecDepth 100000 in
set_option maxHeartbeats 1000000 in
theorem spoil_run (lo : Nat) (v : Value) (l : List Item) (w : World) (hl : ItemsT 60 65 lo w v l) :
    Calls Tryz.prog 17 #[v] w fun e w' => e = .returned (.tuple #[]) ∧ Below lo w w' := by
  obtain ⟨vs, hvl, ⟨A, ca, rfl, hla, hma, hb⟩, hrows⟩ := hl
  unfold maxLen at hma
  have HB := hide hb
  have HR := hide hrows
  clear hb hrows
  go_enter Tryz.func17, Tryz.ntmps17
  go_wp2_with fail
  go_loopw [2] (fun i wr => ∃ k : Nat, i = .int .i64 k ∧ k ≤ l.length ∧ Hid (Spo lo w wr)) (fun i _ => l.length - (intOf i).toNat)
  case atStart => exact ⟨0, rfl, by omega, hide (Spo.refl _ _)⟩
  case round =>
    obtain ⟨k, rfl, hk, HS⟩ := hrel
    by_cases hlt : k < l.length
    · have hkv : k < vs.length := by omega
      obtain ⟨g1, g2⟩ := itemVals_get vs l k hlt hkv
      obtain ⟨b, off, cs, rfl, hlo, hheap, hcs⟩ := HB.out (by intro e; rw [e] at g1; simp at g1)
      obtain ⟨Ar, cr, hr, hr1, hr2, hr3⟩ := HR.out k hlt hkv
      rw [hr] at g1
      have c1 := hide (hcs _ _ g1)
      have c2 := hide (show cs[off + k * 2 + 1]? = some (.int .i64 l[k].w) by rw [Nat.add_assoc]; exact hcs _ _ g2)
      have HH := hide hheap
      have H3 := hide hr3
      unfold maxLen at hr2
      clear g1 g2 hcs hheap hr hr3
      go_wp2_with fail
      go_loopw [3] (fun j wz => ∃ m : Nat, j = .int .i64 m ∧ m ≤ l[k].row.length ∧ Hid (Spo lo w wz)) (fun j _ => l[k].row.length - (intOf j).toNat)
      case atStart => exact ⟨0, rfl, by omega, HS⟩
      case round =>
        obtain ⟨m, rfl, hm, HZ⟩ := hrel
        have x0 := HZ.out.slice HH.out c1.out
        by_cases hmt : m < l[k].row.length
        · have r0 := rowVals_get l[k].row m 0 (by omega) hmt
          have r1 := rowVals_get l[k].row m 1 (by omega) hmt
          have r2 := rowVals_get l[k].row m 2 (by omega) hmt
          obtain ⟨b2, o2, cs2, rfl, hlo2, hheap2, hcs2⟩ := H3.out (rowVals_ne (by omega))
          have q0 : cs2[o2 + m * 3]? = some (.bool l[k].row[m].null) := by have := hcs2 _ _ r0; simpa using this
          have q1 : cs2[o2 + m * 3 + 1]? = some (.int .i64 l[k].row[m].n) := by have := hcs2 _ _ r1; rw [← Nat.add_assoc] at this; simpa using this
          have q2 : cs2[o2 + m * 3 + 2]? = some (.string l[k].row[m].s) := by have := hcs2 _ _ r2; rw [← Nat.add_assoc] at this; simpa using this
          obtain ⟨⟨y0, e0⟩, f0⟩ := HZ.out.some hheap2 q0
          obtain ⟨⟨y1, e1⟩, f1⟩ := HZ.out.some hheap2 q1
          obtain ⟨⟨y2, e2⟩, f2⟩ := HZ.out.some hheap2 q2
          have HN := hide (((HZ.out.set hheap2 hlo2 (by rw [q0]; simp) (.bool false)).set hheap2 hlo2 (by rw [q1]; simp) (.int .i64 (-9))).set hheap2 hlo2 (by rw [q2]; simp) (.string ⟨#[115, 112, 111, 105, 108, 116]⟩))
          clear r0 r1 r2 hcs2 hheap2 q0 q1 q2 H3
          go_wp2_with fail
          go_roundw
          case rel => exact ⟨m + 1, by go_num, by omega, HN⟩
          case measure => simp [intOf]; omega
        · obtain ⟨⟨y1, e1⟩, f1⟩ := HZ.out.some HH.out c2.out
          have HN := hide (HZ.out.set HH.out hlo (by rw [c2.out]; simp) (.int .i64 (-9)))
          go_wp2_with fail
          go_roundw
          case rel => exact ⟨k + 1, by go_num, by omega, HN⟩
          case measure => simp [intOf]; omega
    · go_wp2_with fail
      exact bodyPost_end (results_none rfl _ _ _) rfl ⟨rfl, HS.out.low⟩
end Go.Proofs.YtmfbblcipakaiaaGreatDoor

