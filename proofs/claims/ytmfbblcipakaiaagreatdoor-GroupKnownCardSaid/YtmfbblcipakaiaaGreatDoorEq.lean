/- The walks that compare rows and items for being the same. -/
import Derived.Test.YtmfbblcipakaiaaGreatDoorProg
import Derived.Test.YtmfbblcipakaiaaGreatDoorItems
import Derived.Test.YtmfbblcipakaiaaGreatDoorLeaf2
namespace Go.Proofs.YtmfbblcipakaiaaGreatDoor
open Go.RowKit

theorem cellGuard : Tryz.prog.eqGuardType Tryz.prog.depth 65 = false := by kernel_rfl
theorem cellStood : Tryz.prog.stoodInHeld 65 = false := by kernel_rfl
theorem cellFields : Tryz.prog.underlying 65 = some (.struct (Tryz.prog.fieldsOf 65)) := by kernel_rfl
def neCell (a b : Cell) : Bool := !decide (a = b)
theorem neCell_false {a b : Cell} : neCell a b = false ↔ a = b := by simp [neCell]
theorem neq_cell (a b : Cell) (w : World) : (binOp .neq 65 (.agg #[.bool a.null, .int .i64 a.n, .string a.s]) (.agg #[.bool b.null, .int .i64 b.n, .string b.s])).run Tryz.prog w = .ok (.bool (neCell a b)) w := by
  rw [run_neq_struct, run_equalIn_agg _ _ _ _ _ cellFields cellStood]
  simp only [Program.fieldsOf, Tryz.underlying65]
  obtain ⟨an, ai, aS⟩ := a
  obtain ⟨bn, bi, bS⟩ := b
  simp [go_sem, neCell]
  by_cases h1 : an = bn
  · by_cases h2 : ai = bi
    · by_cases h3 : aS = bS
      · subst h3; simp [h1, h2]
      · have h4 : ¬ aS.toList = bS.toList := fun h => h3 (bytes_ext (by rw [← ByteArray.toList_eq, ← ByteArray.toList_eq, h]))
        simp [h1, h2, h3, h4]
    · simp [h1, h2]
  · simp [h1]

def sameRow (a b : List Cell) : Bool := decide (a = b)
theorem sameRow_len {a b : List Cell} (h : a.length ≠ b.length) : sameRow a b = false := by
  simp only [sameRow, decide_eq_false_iff_not]; intro e; exact h (by rw [e])
theorem sameRow_at {a b : List Cell} {k : Nat} (ha : k < a.length) (hb : k < b.length) (h : neCell a[k] b[k] = true) : sameRow a b = false := by
  simp only [sameRow, decide_eq_false_iff_not]
  rintro rfl
  simp [neCell] at h
theorem sameRow_end {a b : List Cell} (hl : a.length = b.length) (h : ∀ j : Nat, j < a.length → a[j]? = b[j]?) : sameRow a b = true := by
  simp only [sameRow, decide_eq_true_eq]
  apply List.ext_getElem? 
  intro j
  rcases Nat.lt_or_ge j a.length with h1 | h1
  · exact h j h1
  · rw [List.getElem?_eq_none h1, List.getElem?_eq_none (by omega)]
theorem same_next {a b : List Cell} {k : Nat} (ha : k < a.length) (hb : k < b.length) (h : ∀ j : Nat, j < k → a[j]? = b[j]?) (hc : neCell a[k] b[k] = false) : ∀ j : Nat, j < k + 1 → a[j]? = b[j]? := by
  intro j hj
  rcases Nat.lt_or_ge j k with h1 | h1
  · exact h j h1
  · have : j = k := by omega
    subst this
    rw [List.getElem?_eq_getElem ha, List.getElem?_eq_getElem hb, neCell_false.1 hc]
theorem ret_bool {a b : Bool} (h : a = b) : Ending.returned (.bool a) = .returned (.bool b) := by rw [h]

set_option maxRecDepth 100000 in
set_option maxHeartbeats 400000 in
theorem eqRow (va vb : Value) (a b : List Cell) (w : World) (ha : RowIs w va a) (hb : RowIs w vb b) :
    Calls Tryz.prog 46 #[va, vb] w fun e w' => e = .returned (.bool (sameRow a b)) ∧ Old w w' := by
  have hG := cellGuard
  obtain ⟨A, ca, rfl, hla, hma, ha⟩ := ha.row
  obtain ⟨B, cb, rfl, hlb, hmb, hb⟩ := hb.row
  unfold maxLen at hma hmb
  go_enter Tryz.func46, Tryz.ntmps46
  by_cases hl : a.length = b.length
  · have hl' : ((a.length : Int) != (b.length : Int)) = false := by simp [hl]
    have HL := Lib.hid hl
    have hl1 : a.length ≤ b.length := by omega
    have hl2 : b.length ≤ a.length := by omega
    clear hl
    go_wp2_with fail
    go_loopw [5] (fun i wr => ∃ k : Nat, i = .int .i64 k ∧ k ≤ a.length ∧ Hid (∀ j : Nat, j < k → a[j]? = b[j]?) ∧ Old w wr) (fun i _ => a.length - (intOf i).toNat)
    case atStart => exact ⟨0, rfl, by omega, Lib.hid (by intro j hj; omega), Old.refl _⟩
    case round =>
      obtain ⟨k, rfl, hk, HQ, hbl⟩ := hrel
      by_cases hlt : k < a.length
      · have hlt' : k < b.length := by omega
        obtain ⟨b1, o1, rfl, hc1⟩ := ha.resolve_left (by omega)
        obtain ⟨b2, o2, rfl, hc2⟩ := hb.resolve_left (by omega)
        obtain ⟨x0, x1, x2⟩ := hc1 k hlt
        obtain ⟨y0, y1, y2⟩ := hc2 k hlt'
        have hx0 := Old.cell hbl x0
        have hx1 := Old.cell hbl x1
        have hx2 := Old.cell hbl x2
        have hy0 := Old.cell hbl y0
        have hy1 := Old.cell hbl y1
        have hy2 := Old.cell hbl y2
        have hq := neq_cell a[k] b[k]
        clear ha hb hc1 hc2 x0 x1 x2 y0 y1 y2
        go_wp2_with fail
        go_quiet (fail)
        clear hx0 hx1 hx2 hy0 hy1 hy2 hq
        cases hc : neCell a[k] b[k]
        · have HC := Lib.hid hc
          clear hc
          go_wp2_with fail
          go_roundw
          case rel => exact ⟨k + 1, by go_num, by omega, Lib.hid (same_next hlt hlt' HQ.out HC.out), Old.drewN hbl _⟩
          case measure => simp [intOf]; omega
        · have HC := Lib.hid hc
          clear hc
          go_wp2_with fail
          go_ret
          exact ⟨ret_bool (sameRow_at hlt hlt' HC.out).symm, Old.drewN hbl _⟩
      · go_wp2_with fail
        go_ret
        exact ⟨ret_bool (sameRow_end HL.out (fun j hj => HQ.out j (by omega))).symm, hbl⟩
  · have hl' : ((a.length : Int) != (b.length : Int)) = true := by simp; omega
    go_wp2_with fail
    go_ret
    exact ⟨ret_bool (sameRow_len hl).symm, Old.refl _⟩
set_option maxRecDepth 100000 in
set_option maxHeartbeats 400000 in
theorem slices_Equal (va vb : Value) (a b : List Cell) (w : World) (ha : RowIs w va a) (hb : RowIs w vb b) :
    Calls Tryz.prog 77 #[va, vb] w fun e w' => e = .returned (.bool (sameRow a b)) ∧ Old w w' := by
  have hG := cellGuard
  obtain ⟨A, ca, rfl, hla, hma, ha⟩ := ha.row
  obtain ⟨B, cb, rfl, hlb, hmb, hb⟩ := hb.row
  unfold maxLen at hma hmb
  go_enter Tryz.func77, Tryz.ntmps77
  by_cases hl : a.length = b.length
  · have hl' : ((a.length : Int) != (b.length : Int)) = false := by simp [hl]
    have HL := Lib.hid hl
    have hl1 : a.length ≤ b.length := by omega
    have hl2 : b.length ≤ a.length := by omega
    clear hl
    go_wp2_with fail
    go_loopw [13] (fun i wr => ∃ k : Nat, i = .int .i64 k ∧ k ≤ a.length ∧ Hid (∀ j : Nat, j < k → a[j]? = b[j]?) ∧ Old w wr) (fun i _ => a.length - (intOf i).toNat)
    case atStart => exact ⟨0, rfl, by omega, Lib.hid (by intro j hj; omega), Old.refl _⟩
    case round =>
      obtain ⟨k, rfl, hk, HQ, hbl⟩ := hrel
      by_cases hlt : k < a.length
      · have hlt' : k < b.length := by omega
        obtain ⟨b1, o1, rfl, hc1⟩ := ha.resolve_left (by omega)
        obtain ⟨b2, o2, rfl, hc2⟩ := hb.resolve_left (by omega)
        obtain ⟨x0, x1, x2⟩ := hc1 k hlt
        obtain ⟨y0, y1, y2⟩ := hc2 k hlt'
        have hx0 := Old.cell hbl x0
        have hx1 := Old.cell hbl x1
        have hx2 := Old.cell hbl x2
        have hy0 := Old.cell hbl y0
        have hy1 := Old.cell hbl y1
        have hy2 := Old.cell hbl y2
        have hq := neq_cell a[k] b[k]
        clear ha hb hc1 hc2 x0 x1 x2 y0 y1 y2
        go_wp2_with fail
        go_quiet (fail)
        clear hx0 hx1 hx2 hy0 hy1 hy2 hq
        cases hc : neCell a[k] b[k]
        · have HC := Lib.hid hc
          clear hc
          go_wp2_with fail
          go_roundw
          case rel => exact ⟨k + 1, by go_num, by omega, Lib.hid (same_next hlt hlt' HQ.out HC.out), Old.drewN hbl _⟩
          case measure => simp [intOf]; omega
        · have HC := Lib.hid hc
          clear hc
          go_wp2_with fail
          go_ret
          exact ⟨ret_bool (sameRow_at hlt hlt' HC.out).symm, Old.drewN hbl _⟩
      · go_wp2_with fail
        go_ret
        exact ⟨ret_bool (sameRow_end HL.out (fun j hj => HQ.out j (by omega))).symm, hbl⟩
  · have hl' : ((a.length : Int) != (b.length : Int)) = true := by simp; omega
    go_wp2_with fail
    go_ret
    exact ⟨ret_bool (sameRow_len hl).symm, Old.refl _⟩
theorem row_Same (va vb : Value) (a b : List Cell) (w : World) (ha : RowIs w va a) (hb : RowIs w vb b) :
    Calls Tryz.prog 58 #[va, vb] w fun e w' => e = .returned (.bool (sameRow a b)) ∧ Old w w' := by
  have c := slices_Equal va vb a b w ha hb
  have C := Lib.hid c
  clear c ha hb
  go_enter Tryz.func58, Tryz.ntmps58
  go_wp2_with fail
  refine C.out.mono ?_
  rintro e w1 ⟨rfl, h1⟩
  go_wp2_with fail
  go_ret
  exact ⟨rfl, h1⟩

def sameItems (a b : List Item) : Bool := decide (a = b)
theorem sameItems_len {a b : List Item} (h : a.length ≠ b.length) : sameItems a b = false := by
  simp only [sameItems, decide_eq_false_iff_not]; intro e; exact h (by rw [e])
theorem sameItems_w {a b : List Item} {k : Nat} (ha : k < a.length) (hb : k < b.length) (h : ¬ a[k].w = b[k].w) : sameItems a b = false := by
  simp only [sameItems, decide_eq_false_iff_not]
  rintro rfl
  simp at h
theorem sameItems_row {a b : List Item} {k : Nat} (ha : k < a.length) (hb : k < b.length) (h : sameRow a[k].row b[k].row = false) : sameItems a b = false := by
  simp only [sameItems, decide_eq_false_iff_not]
  rintro rfl
  simp [sameRow] at h
theorem sameItems_end {a b : List Item} (hl : a.length = b.length) (h : ∀ j : Nat, j < a.length → a[j]? = b[j]?) : sameItems a b = true := by
  simp only [sameItems, decide_eq_true_eq]
  apply List.ext_getElem?
  intro j
  rcases Nat.lt_or_ge j a.length with h1 | h1
  · exact h j h1
  · rw [List.getElem?_eq_none h1, List.getElem?_eq_none (by omega)]
theorem sameItems_next {a b : List Item} {k : Nat} (ha : k < a.length) (hb : k < b.length) (h : ∀ j : Nat, j < k → a[j]? = b[j]?) (hw : a[k].w = b[k].w) (hr : sameRow a[k].row b[k].row = true) : ∀ j : Nat, j < k + 1 → a[j]? = b[j]? := by
  intro j hj
  rcases Nat.lt_or_ge j k with h1 | h1
  · exact h j h1
  · have : j = k := by omega
    subst this
    rw [List.getElem?_eq_getElem ha, List.getElem?_eq_getElem hb]
    simp only [sameRow, decide_eq_true_eq] at hr
    congr 1
    generalize a[j] = x at *
    generalize b[j] = y at *
    cases x; cases y
    simp_all

set_option maxRecDepth 100000 in
set_option maxHeartbeats 400000 in
theorem eqItems (va vb : Value) (a b : List Item) (w : World) (ha : ItemsIs w va a) (hb : ItemsIs w vb b) :
    Calls Tryz.prog 16 #[va, vb] w fun e w' => e = .returned (.bool (sameItems a b)) ∧ Old w w' := by
  obtain ⟨A, ca, us, rfl, hla, hma, hul, hur, ha⟩ := ha.open_
  obtain ⟨B, cb, vs, rfl, hlb, hmb, hvl, hvr, hb⟩ := hb.open_
  unfold maxLen at hma hmb
  have HUR := Lib.hid hur
  have HVR := Lib.hid hvr
  clear hur hvr
  go_enter Tryz.func16, Tryz.ntmps16
  by_cases hl : a.length = b.length
  · have hl' : ((a.length : Int) != (b.length : Int)) = false := by simp [hl]
    have HL := Lib.hid hl
    have hl1 : a.length ≤ b.length := by omega
    have hl2 : b.length ≤ a.length := by omega
    clear hl
    go_wp2_with fail
    go_loopw [5] (fun i wr => ∃ k : Nat, i = .int .i64 k ∧ k ≤ a.length ∧ Hid (∀ j : Nat, j < k → a[j]? = b[j]?) ∧ Old w wr) (fun i _ => a.length - (intOf i).toNat)
    case atStart => exact ⟨0, rfl, by omega, Lib.hid (by intro j hj; omega), Old.refl _⟩
    case round =>
      obtain ⟨k, rfl, hk, HQ, hbl⟩ := hrel
      by_cases hlt : k < a.length
      · have hlt' : k < b.length := by omega
        have hku : k < us.length := by omega
        have hkv : k < vs.length := by omega
        obtain ⟨b1, o1, rfl, hc1⟩ := ha.resolve_left (by omega)
        obtain ⟨b2, o2, rfl, hc2⟩ := hb.resolve_left (by omega)
        obtain ⟨x0, x1⟩ := hc1 k hlt hku
        obtain ⟨y0, y1⟩ := hc2 k hlt' hkv
        have hx0 : ∀ p : Later wr, p.world.cell? ⟨b1, o1 + k * 2, none⟩ = some us[k] := fun p => (Old.trans hbl p.old).cell x0
        have hx1 : ∀ p : Later wr, p.world.cell? ⟨b1, o1 + k * 2 + 1, none⟩ = some (.int .i64 a[k].w) := fun p => (Old.trans hbl p.old).cell x1
        have hy0 : ∀ p : Later wr, p.world.cell? ⟨b2, o2 + k * 2, none⟩ = some vs[k] := fun p => (Old.trans hbl p.old).cell y0
        have hy1 : ∀ p : Later wr, p.world.cell? ⟨b2, o2 + k * 2 + 1, none⟩ = some (.int .i64 b[k].w) := fun p => (Old.trans hbl p.old).cell y1
        have hcall : ∀ p : Later wr, Calls Tryz.prog 46 #[us[k], vs[k]] p.world fun e w' => e = .returned (.bool (sameRow a[k].row b[k].row)) ∧ Old p.world w' := fun p =>
          eqRow _ _ _ _ _ ((HUR.out k hlt hku).old (Old.trans hbl p.old)) ((HVR.out k hlt' hkv).old (Old.trans hbl p.old))
        have HC := Lib.hid hcall
        clear ha hb hc1 hc2 x0 x1 y0 y1 hcall
        by_cases hw : a[k].w = b[k].w
        · have hw' : (a[k].w != b[k].w) = false := by simpa using hw
          have HW := Lib.hid hw
          clear hw
          go_wp2_with fail
          refine region_later (by kernel_rfl) (by kernel_rfl) ?_
          repeat (go_big_quiet_step ((go_at_call 46; exact Later.call (HC.out _))))
          refine wpQuiet_nil ?_
          rintro wq ⟨⟨_, hwq⟩, rfl⟩
          clear hx0 hx1 hy0 hy1
          cases hc : sameRow a[k].row b[k].row
          · have HS := Lib.hid hc
            clear hc
            go_wp2_with fail
            go_ret
            exact ⟨ret_bool (sameItems_row hlt hlt' HS.out).symm, Old.trans hbl hwq⟩
          · have HS := Lib.hid hc
            clear hc
            go_wp2_with fail
            go_roundw
            case rel => exact ⟨k + 1, by go_num, by omega, Lib.hid (sameItems_next hlt hlt' HQ.out HW.out HS.out), Old.trans hbl hwq⟩
            case measure => simp [intOf]; omega
        · have hw' : (a[k].w != b[k].w) = true := by simpa using hw
          have HW := Lib.hid hw
          clear hw
          go_wp2_with fail
          refine region_later (by kernel_rfl) (by kernel_rfl) ?_
          repeat (go_big_quiet_step ((go_at_call 46; exact Later.call (HC.out _))))
          refine wpQuiet_nil ?_
          rintro wq ⟨⟨_, hwq⟩, rfl⟩
          clear hx0 hx1 hy0 hy1
          go_wp2_with fail
          go_ret
          exact ⟨ret_bool (sameItems_w hlt hlt' HW.out).symm, Old.trans hbl hwq⟩
      · go_wp2_with fail
        go_ret
        exact ⟨ret_bool (sameItems_end HL.out (fun j hj => HQ.out j (by omega))).symm, hbl⟩
  · have hl' : ((a.length : Int) != (b.length : Int)) = true := by simp; omega
    go_wp2_with fail
    go_ret
    exact ⟨ret_bool (sameItems_len hl).symm, Old.refl _⟩
end Go.Proofs.YtmfbblcipakaiaaGreatDoor


