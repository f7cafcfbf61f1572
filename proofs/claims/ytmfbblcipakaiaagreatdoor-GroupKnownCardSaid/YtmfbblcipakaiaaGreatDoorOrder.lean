/- How two items stand, and the checks of Z-sets: the program's and the document's. -/
import Derived.Test.YtmfbblcipakaiaaGreatDoorLeaf2
import Derived.Test.YtmfbblcipakaiaaGreatDoorSum
import Derived.Test.YtmfbblcipakaiaaGreatDoorEq
namespace Go.Proofs.YtmfbblcipakaiaaGreatDoor
open Go.RowKit

set_option maxRecDepth 100000 in
theorem items_order (v : Value) (l : List Item) (x y : Nat) (w : World) (hl : ItemsIs w v l) (hx : x < l.length) (hy : y < l.length) :
    Calls Tryz.prog 52 #[v, .int .i64 x, .int .i64 y] w fun e w' => e = .returned (.int .i64 (rowCmp l[x].row l[y].row)) ∧ Old w w' := by
  obtain ⟨A, ca, us, rfl, hla, hma, hul, hur, ha⟩ := hl.open_
  unfold maxLen at hma
  obtain ⟨b1, o1, rfl, hc1⟩ := ha.resolve_left (by omega)
  obtain ⟨x0, _⟩ := hc1 x hx (by omega)
  obtain ⟨y0, _⟩ := hc1 y hy (by omega)
  have hx0 : ∀ p : Later w, p.world.cell? ⟨b1, o1 + x * 2, none⟩ = some us[x] := fun p => p.old.cell x0
  have hy0 : ∀ p : Later w, p.world.cell? ⟨b1, o1 + y * 2, none⟩ = some us[y] := fun p => p.old.cell y0
  have hcall : ∀ p : Later w, Calls Tryz.prog 73 #[us[x], us[y]] p.world fun e w' => e = .returned (.int .i64 (rowCmp l[x].row l[y].row)) ∧ Old p.world w' := fun p =>
    (row_Compare _ _ _ _ _ ((hur x hx (by omega)).old p.old) ((hur y hy (by omega)).old p.old)).mono fun _ _ h => ⟨h.1, h.2.old⟩
  have HC := Lib.hid hcall
  clear hcall hur hc1 x0 y0 ha
  go_enter Tryz.func52, Tryz.ntmps52
  go_wp2_with fail
  refine region_later (by kernel_rfl) (by kernel_rfl) ?_
  repeat (go_big_quiet_step ((go_at_call 73; exact Later.call (HC.out _))))
  refine wpQuiet_nil ?_
  rintro wq ⟨⟨_, hwq⟩, rfl⟩
  clear hx0 hy0
  go_wp2_with fail
  go_ret
  exact ⟨rfl, hwq⟩

/-- one step of Check -/
theorem zAt_zero {z : List Item} {k : Nat} (hk : k < z.length) (h : z[k].w = 0) : zAt z k = false := by
  simp [zAt, List.getElem?_eq_getElem hk, h]
theorem zAt_first {z : List Item} {k : Nat} (hk : k < z.length) (h : ¬ z[k].w = 0) (h0 : k = 0) : zAt z k = true := by
  subst h0
  simp [zAt, List.getElem?_eq_getElem hk, h]
theorem zAt_next {z : List Item} {j : Nat} (hj : j + 1 < z.length) (h : ¬ z[j + 1].w = 0) {c : Int} (hc : rowCmp z[j].row z[j + 1].row = c) : zAt z (j + 1) = decide (c < 0) := by
  simp [zAt, List.getElem?_eq_getElem hj, List.getElem?_eq_getElem (show j < z.length by omega), h, hc]

set_option maxRecDepth 100000 in
set_option maxHeartbeats 1000000 in
theorem zset_Check (v : Value) (z : List Item) (w : World) (hl : ItemsIs w v z) :
    Calls Tryz.prog 27 #[v] w fun e w' => e = .returned (.int .i64 (chk z)) ∧ Old w w' := by
  have HL := Lib.hid hl
  obtain ⟨A, ca, us, rfl, hla, hma, hul, hur, ha⟩ := hl.open_
  unfold maxLen at hma
  have HUR := Lib.hid hur
  clear hur
  go_enter Tryz.func27, Tryz.ntmps27
  go_wp2_with fail
  go_loopw [7] (fun i wr => ∃ k : Nat, i = .int .i64 k ∧ k ≤ z.length ∧ Hid (∀ j : Nat, j < k → zAt z j = true) ∧ Old w wr) (fun i _ => z.length - (intOf i).toNat)
  case atStart => exact ⟨0, rfl, by omega, Lib.hid (by intro j hj; omega), Old.refl _⟩
  case round =>
    obtain ⟨k, rfl, hk, HQ, hbl⟩ := hrel
    by_cases hlt : k < z.length
    · have hku : k < us.length := by omega
      obtain ⟨b1, o1, rfl, hc1⟩ := ha.resolve_left (by omega)
      obtain ⟨x0, x1⟩ := hc1 k hlt hku
      obtain ⟨Ar, cr, hr, _⟩ := HUR.out k hlt hku
      rw [hr] at x0
      have hx0 := hbl.cell x0
      have hx1 := hbl.cell x1
      clear ha hc1 x0 x1 hr
      by_cases hw : z[k].w = 0
      · have HW := Lib.hid hw
        have hw' : (z[k].w == 0) = true := by simpa using hw
        clear hw
        go_wp2_with fail
        go_ret
        exact ⟨ret_int (chk_bad hlt (zAt_zero hlt HW.out)).symm, Old.alloc hbl _⟩
      · have HW := Lib.hid hw
        have hw' : (z[k].w == 0) = false := by simpa using hw
        clear hw
        by_cases h0 : k = 0
        · have hg : ¬ (k : Int) > 0 := by omega
          have H0 := Lib.hid h0
          clear h0
          go_wp2_with fail
          go_roundw
          case rel => exact ⟨k + 1, by go_num, by omega, Lib.hid (fun j hj => by
            rcases Nat.lt_or_ge j k with h | h
            · exact HQ.out j h
            · have : j = k := by omega
              subst this
              exact zAt_first hlt HW.out H0.out), Old.alloc hbl _⟩
          case measure => simp [intOf]; omega
        · have hg : (k : Int) > 0 := by omega
          have hp : k - 1 < z.length := by omega
          have hcall : ∀ w', Old w w' → Calls Tryz.prog 52 #[.slice (some ⟨b1, o1, none⟩) z.length ca, .int .i64 ((k : Int) - 1), .int .i64 k] w' fun e w2 => e = .returned (.int .i64 (rowCmp z[k - 1].row z[k].row)) ∧ Old w w2 := fun w' h => by
            have := items_order _ z (k - 1) k w' (HL.out.old h) hp hlt
            rw [show ((k - 1 : Nat) : Int) = (k : Int) - 1 by omega] at this
            exact this.mono fun _ _ q => ⟨q.1, Old.trans h q.2⟩
          have hz : ∀ c, rowCmp z[k - 1].row z[k].row = c → zAt z k = decide (c < 0) := by
            obtain ⟨j, rfl⟩ : ∃ j, k = j + 1 := ⟨k - 1, by omega⟩
            intro c hc
            exact zAt_next hlt HW.out hc
          have HC := Lib.hid hcall
          clear hcall h0
          generalize rowCmp z[k - 1].row z[k].row = c at HC hz
          have HZ := Lib.hid (hz c rfl)
          clear hz
          by_cases hcc : c < 0
          · have hc' : ¬ c ≥ 0 := by omega
            go_wp2_with (go_at_call 52; refine (HC.out _ (Old.alloc hbl _)).mono ?_; rintro e w1 ⟨rfl, h1⟩)
            go_roundw
            case rel => exact ⟨k + 1, by go_num, by omega, Lib.hid (fun j hj => by
              rcases Nat.lt_or_ge j k with h | h
              · exact HQ.out j h
              · have : j = k := by omega
                subst this
                rw [HZ.out]
                exact decide_eq_true hcc), h1⟩
            case measure => simp [intOf]; omega
          · have hc' : c ≥ 0 := by omega
            go_wp2_with (go_at_call 52; refine (HC.out _ (Old.alloc hbl _)).mono ?_; rintro e w1 ⟨rfl, h1⟩)
            go_ret
            exact ⟨ret_int (chk_bad hlt (by rw [HZ.out]; exact decide_eq_false (by omega))).symm, h1⟩
    · go_wp2_with fail
      go_ret
      exact ⟨ret_int (chk_all (fun j hj => HQ.out j (by omega))).symm, hbl⟩

/-! ### the document's answer -/
theorem eql_cell (a b : Cell) (w : World) : (binOp .eql 65 (.agg #[.bool a.null, .int .i64 a.n, .string a.s]) (.agg #[.bool b.null, .int .i64 b.n, .string b.s])).run Tryz.prog w = .ok (.bool (!neCell a b)) w := by
  rw [run_eql_struct, run_equalIn_agg _ _ _ _ _ cellFields cellStood]
  simp only [Program.fieldsOf, Tryz.underlying65]
  obtain ⟨an, ai, aS⟩ := a
  obtain ⟨bn, bi, bS⟩ := b
  simp [go_sem, neCell]
  by_cases h1 : an = bn
  · by_cases h2 : ai = bi
    · by_cases h3 : aS = bS
      · subst h3; simp [h1, h2]
      · have h4 : ¬ aS.toList = bS.toList := fun h => h3 (bytes_ext (by rw [← ByteArray.toList_eq, ← ByteArray.toList_eq, h]))
        simp [h1, h2, h3, h4]
    · simp [h1, h2]
  · simp [h1]
theorem bytesLess_cmp : ∀ a b : List UInt8, Op.bytesLess a b = decide (Lib.compareBytes a b < 0)
  | [], [] => by simp [Op.bytesLess, Lib.compareBytes]
  | [], _ :: _ => by simp [Op.bytesLess, Lib.compareBytes]
  | _ :: _, [] => by simp [Op.bytesLess, Lib.compareBytes]
  | a :: xs, b :: ys => by
    unfold Op.bytesLess Lib.compareBytes
    have ih := bytesLess_cmp xs ys
    by_cases h1 : a < b
    · simp [h1]
    · by_cases h2 : b < a
      · have hne : ¬ a = b := by rintro rfl; exact h1 h2
        simp [h1, h2, hne]
      · have he : a = b := by
          rw [UInt8.lt_iff_toNat_lt] at h1 h2
          exact UInt8.toNat.inj (by omega)
        subst he
        simp [ih]
theorem cmpB_one : ∀ a b : List UInt8, Lib.compareBytes a b = -1 ∨ Lib.compareBytes a b = 0 ∨ Lib.compareBytes a b = 1
  | [], [] => by simp [Lib.compareBytes]
  | [], _ :: _ => by simp [Lib.compareBytes]
  | _ :: _, [] => by simp [Lib.compareBytes]
  | a :: xs, b :: ys => by
    unfold Lib.compareBytes
    split
    · simp
    · split
      · simp
      · exact cmpB_one xs ys
theorem cmpI_one (a b : Int) : Lib.compareInt a b = -1 ∨ Lib.compareInt a b = 0 ∨ Lib.compareInt a b = 1 := by unfold Lib.compareInt; split <;> (try split) <;> omega
theorem cmpI_lt_one {a b : Int} (h : a < b) : Lib.compareInt a b = -1 := by unfold Lib.compareInt; split <;> (try split) <;> omega
theorem cmpI_gt_one {a b : Int} (h : b < a) : Lib.compareInt a b = 1 := by unfold Lib.compareInt; split <;> (try split) <;> omega
theorem hide {p : Prop} (h : p) : Hid p := h
def txtLess (a b : ByteArray) : Bool := Op.bytesLess a.toList b.toList
theorem txtLess_eq (a b : ByteArray) : txtLess a b = decide (Lib.compareBytes a.data.toList b.data.toList < 0) := by rw [txtLess, bytesLess_cmp, ByteArray.toList_eq, ByteArray.toList_eq]
theorem cellCmp_lt {a b : Cell} (hn : a.null = b.null) (h : a.n < b.n) : cellCmp a b = -1 := by
  have h1 : Lib.compareInt a.n b.n < 0 := cmpI_neg.2 h
  have := cmpI_one a.n b.n
  unfold cellCmp
  rw [if_pos hn, if_neg (by omega)]
  omega
theorem cellCmp_gt {a b : Cell} (hn : a.null = b.null) (h : b.n < a.n) : cellCmp a b = 1 := by
  have h1 : 0 < Lib.compareInt a.n b.n := cmpI_pos.2 h
  have := cmpI_one a.n b.n
  unfold cellCmp
  rw [if_pos hn, if_neg (by omega)]
  omega
theorem cellCmp_txt {a b : Cell} (hn : a.null = b.null) (h : a.n = b.n) (hne : neCell a b = true) : cellCmp a b = if txtLess a.s b.s then -1 else 1 := by
  have h1 : Lib.compareInt a.n b.n = 0 := cmpI_zero.2 h
  have h2 := cmpB_one a.s.data.toList b.s.data.toList
  have h3 : cellCmp a b ≠ 0 := by
    intro e
    rw [cellCmp_zero] at e
    simp [neCell, e] at hne
  unfold cellCmp at *
  rw [if_pos hn, if_pos h1] at *
  rw [txtLess_eq]
  split <;> simp at * <;> omega
theorem cellCmp_null {a b : Cell} (hn : ¬ a.null = b.null) : cellCmp a b = if a.null then -1 else 1 := by
  unfold cellCmp
  rw [if_neg hn]

set_option maxRecDepth 100000 in
set_option maxHeartbeats 1000000 in
theorem ref_cellCompare (a b : Cell) (w : World) : Calls Tryz.prog 90 #[.agg #[.bool a.null, .int .i64 a.n, .string a.s], .agg #[.bool b.null, .int .i64 b.n, .string b.s]] w fun e w' => e = .returned (.int .i64 (cellCmp a b)) ∧ Grew w w' := by
  have hG := cellGuard
  have hq := eql_cell a b
  cases hn : neCell a b
  · have hn' := Lib.hid (neCell_false.1 hn)
    rw [hn] at hq
    clear hn
    go_enter Tryz.func90, Tryz.ntmps90
    go_wp2_with fail
    go_ret
    exact ⟨ret_int (cellCmp_zero.2 hn'.out).symm, (((Grew.refl w).alloc _).alloc _)⟩
  · have HN := Lib.hid hn
    rw [hn] at hq
    clear hn
    by_cases h1 : a.null = b.null
    · have H1 := Lib.hid h1
      have L1 := Lib.hid (fun h => cellCmp_lt H1.out (a := a) (b := b) h)
      have L2 := Lib.hid (fun h => cellCmp_gt H1.out (a := a) (b := b) h)
      have L3 := Lib.hid (fun h => cellCmp_txt H1.out (a := a) (b := b) h HN.out)
      clear H1
      obtain ⟨an, ai, aS⟩ := a
      obtain ⟨bn, bi, bS⟩ := b
      simp only at *
      subst h1
      by_cases h2 : ai < bi
      · go_enter Tryz.func90, Tryz.ntmps90
        go_wp2_with fail
        go_ret
        exact ⟨ret_int (L1.out h2).symm, (((Grew.refl w).alloc _).alloc _)⟩
      · by_cases h3 : ai = bi
        · have h3' : (ai == bi) = true := by simp [h3]
          have hc := Lib.hid (L3.out h3)
          clear h3
          cases hs : Op.bytesLess aS.toList bS.toList
          · have hc' := Lib.hid (show cellCmp ⟨an, ai, aS⟩ ⟨an, bi, bS⟩ = (1 : Int) by rw [hc.out, txtLess, hs]; rfl)
            clear hc
            go_enter Tryz.func90, Tryz.ntmps90
            go_wp2_with fail
            go_ret
            exact ⟨ret_int hc'.out.symm, (((Grew.refl w).alloc _).alloc _)⟩
          · have hc' := Lib.hid (show cellCmp ⟨an, ai, aS⟩ ⟨an, bi, bS⟩ = (-1 : Int) by rw [hc.out, txtLess, hs]; rfl)
            clear hc
            go_enter Tryz.func90, Tryz.ntmps90
            go_wp2_with fail
            go_ret
            exact ⟨ret_int hc'.out.symm, (((Grew.refl w).alloc _).alloc _)⟩
        · have h3' : (ai == bi) = false := by simp [h3]
          go_enter Tryz.func90, Tryz.ntmps90
          go_wp2_with fail
          go_ret
          exact ⟨ret_int (L2.out (by omega)).symm, (((Grew.refl w).alloc _).alloc _)⟩
    · have H1 := Lib.hid (cellCmp_null h1)
      obtain ⟨an, ai, aS⟩ := a
      obtain ⟨bn, bi, bS⟩ := b
      simp only at *
      cases an <;> cases bn <;> simp at h1
      · go_enter Tryz.func90, Tryz.ntmps90
        go_wp2_with fail
        go_ret
        exact ⟨ret_int H1.out.symm, (((Grew.refl w).alloc _).alloc _)⟩
      · go_enter Tryz.func90, Tryz.ntmps90
        go_wp2_with fail
        go_ret
        exact ⟨ret_int H1.out.symm, (((Grew.refl w).alloc _).alloc _)⟩

set_option maxRecDepth 100000 in
set_option maxHeartbeats 400000 in
theorem ref_rowCompare (va vb : Value) (a b : List Cell) (w : World) (ha : RowIs w va a) (hb : RowIs w vb b) :
    Calls Tryz.prog 69 #[va, vb] w fun e w' => e = .returned (.int .i64 (rowCmp a b)) ∧ Grew w w' := by
  obtain ⟨A, ca, rfl, hla, hma, ha⟩ := ha.row
  obtain ⟨B, cb, rfl, hlb, hmb, hb⟩ := hb.row
  unfold maxLen at hma hmb
  go_enter Tryz.func69, Tryz.ntmps69
  go_wp2_with fail
  go_loopw [5] (fun i wr => ∃ k : Nat, i = .int .i64 k ∧ k ≤ a.length ∧ k ≤ b.length ∧ Hid (∀ j : Nat, j < k → a[j]? = b[j]?) ∧ Grew w wr) (fun i _ => a.length - (intOf i).toNat)
  case atStart => exact ⟨0, rfl, by omega, by omega, hide (by intro j hj; omega), Grew.refl _⟩
  case round =>
    obtain ⟨k, rfl, hka, hkb, HQ, hbl⟩ := hrel
    by_cases hlta : k < a.length
    · by_cases hltb : k < b.length
      · obtain ⟨b1, o1, rfl, hc1⟩ := ha.resolve_left (by omega)
        obtain ⟨b2, o2, rfl, hc2⟩ := hb.resolve_left (by omega)
        obtain ⟨x0, x1, x2⟩ := hc1 k hlta
        obtain ⟨y0, y1, y2⟩ := hc2 k hltb
        have hx0 : ∀ p : LaterG wr, p.world.cell? ⟨b1, o1 + k * 3, none⟩ = some (.bool a[k].null) := fun p => (hbl.trans p.grew).cell x0
        have hx1 : ∀ p : LaterG wr, p.world.cell? ⟨b1, o1 + k * 3 + 1, none⟩ = some (.int .i64 a[k].n) := fun p => (hbl.trans p.grew).cell x1
        have hx2 : ∀ p : LaterG wr, p.world.cell? ⟨b1, o1 + k * 3 + 2, none⟩ = some (.string a[k].s) := fun p => (hbl.trans p.grew).cell x2
        have hy0 : ∀ p : LaterG wr, p.world.cell? ⟨b2, o2 + k * 3, none⟩ = some (.bool b[k].null) := fun p => (hbl.trans p.grew).cell y0
        have hy1 : ∀ p : LaterG wr, p.world.cell? ⟨b2, o2 + k * 3 + 1, none⟩ = some (.int .i64 b[k].n) := fun p => (hbl.trans p.grew).cell y1
        have hy2 : ∀ p : LaterG wr, p.world.cell? ⟨b2, o2 + k * 3 + 2, none⟩ = some (.string b[k].s) := fun p => (hbl.trans p.grew).cell y2
        clear ha hb hc1 hc2 x0 x1 x2 y0 y1 y2
        go_wp2_with fail
        refine region_laterG (by kernel_rfl) (by kernel_rfl) ?_
        repeat (quiet_step ((go_at_call 90; exact LaterG.call (ref_cellCompare _ _ _))))
        refine wpQuiet_nil ?_
        rintro _ ⟨⟨wq, hwq⟩, rfl⟩
        clear hx0 hx1 hx2 hy0 hy1 hy2
        by_cases hc : cellCmp a[k] b[k] = 0
        · have hc' : (cellCmp a[k] b[k] != 0) = false := by simpa using hc
          have HC := Lib.hid hc
          clear hc
          go_wp2_with fail
          go_roundw
          case rel => exact ⟨k + 1, by go_num, by omega, by omega, hide (pre_next hlta hltb HQ.out HC.out), hbl.trans hwq⟩
          case measure => simp [intOf]; omega
        · have hc' : (cellCmp a[k] b[k] != 0) = true := by simpa using hc
          have HC := Lib.hid hc
          clear hc
          go_wp2_with fail
          go_ret
          exact ⟨ret_int (rowCmp_at hlta hltb HQ.out HC.out).symm, hbl.trans hwq⟩
      · have hr := Lib.hid <| rowCmp_end hka hkb (fun h => hltb h.2) HQ.out
        have hl : ¬ (a.length : Int) < b.length := by omega
        have hl2 : (a.length : Int) > b.length := by omega
        go_wp2_with fail
        go_ret
        exact ⟨ret_int (by rw [hr.out]; exact (cmpI_gt_one hl2).symm), hbl⟩
    · have hr := Lib.hid <| rowCmp_end hka hkb (fun h => hlta h.1) HQ.out
      by_cases hl : (a.length : Int) < b.length
      · go_wp2_with fail
        go_ret
        exact ⟨ret_int (by rw [hr.out]; exact (cmpI_lt_one hl).symm), hbl⟩
      · have hl2 : ¬ (a.length : Int) > b.length := by omega
        go_wp2_with fail
        go_ret
        exact ⟨ret_int (by rw [hr.out]; exact (cmpI_zero.2 (by omega)).symm), hbl⟩

end Go.Proofs.YtmfbblcipakaiaaGreatDoor

